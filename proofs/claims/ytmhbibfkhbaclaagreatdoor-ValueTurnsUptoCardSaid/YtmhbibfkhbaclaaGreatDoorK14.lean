/- Layer 13, the code: distinct. -/
import Derived.Test.YtmhbibfkhbaclaaGreatDoorK8
namespace Go.Proofs.YtmhbibfkhbaclaaGreatDoor
open Go E
set_option maxRecDepth 100000
set_option maxHeartbeats 4000000
set_option linter.unusedVariables false
set_option linter.unusedSimpArgs false
attribute [local irreducible] Tri TriL TriO PO VO E.Pure DOb
def idxGo (v : ByteArray) : Int → List ByteArray → Int
  | _, [] => -1
  | i, x :: xs => if v = x then i else idxGo v (i + 1) xs
theorem idxGo_step {v : ByteArray} {l : List ByteArray} {i : Nat} {k : Int} (h : i < l.length) : idxGo v k (l.drop i) = if v = l[i] then k else idxGo v (k + 1) (l.drop (i + 1)) := by
  rw [List.drop_eq_getElem_cons h, idxGo]
theorem index_p (l : List ByteArray) (nn : Bool) (v : ByteArray) (hb : l.length ≤ big) : E.Pure Tryz.prog 95 [.sl nn (l.map tStr), tStr v] (.one (.t (tInt (idxGo v 0 l)))) := by
  unfold big at hb
  have hlen : (l.map tStr).length = l.length := by simp
  refine Pure.of1 Tryz.func95 rfl rfl (Nat.le_of_ble_eq_true rfl) rfl ?_
  repeat' (first | refine Tri.seq ?_ | refine Tri.reg ?_ | refine TriL.nil ?_ | (apply U.moveT; rfl; trivial; rfl) | (apply U.assignT; rfl; trivial; rfl) | (apply U.len; rfl; trivial; rfl) | refine Tri.block ?_ | fail)
  refine Tri.loopS (α := Nat) (fun i => ⟨[(8, .t (tInt i)), (7, .t (tInt l.length)), (6, .t (.sl nn (l.map tStr))), (4, .t (tInt 0)), (1, .t (tStr v)), (0, .t (.sl nn (l.map tStr)))], Tryz.f95.ntmps, [], 0, 0⟩)
    (fun i => i ≤ l.length ∧ idxGo v 0 l = idxGo v i (l.drop i)) (fun i => l.length - i) 0 ?_ ?_ ?_
  · exact ⟨Nat.zero_le _, rfl⟩
  · refine Sub.of rfl rfl ⟨rfl, ?_, rfl, rfl, rfl, rfl, trivial⟩ trivial
    rw [← hlen]; rfl
  · rintro i ⟨hi, hn⟩
    repeat' (first | refine Tri.seq ?_ | refine Tri.reg ?_ | refine TriL.nil ?_ | (apply U.moveT; rfl; trivial; rfl) | (apply U.assignT; rfl; trivial; rfl) | (apply U.bin; rfl; trivial; rfl; trivial; rfl; rfl) | refine Tri.skip ?_ | refine Tri.block ?_ | refine Tri.exit ?_ | refine Tri.ret ?_ | (refine Tri.cond rfl (fun h => ?_) (fun h => ?_) <;> (try simp at h) <;> (try contradiction)) | fail)
    · have hlt : i < l.length := by omega
      have hget := get_str hlt
      have hstep := idxGo_step (v := v) (k := i) hlt
      repeat' (first | refine Tri.seq ?_ | refine Tri.reg ?_ | refine TriL.nil ?_ | (apply U.moveT; rfl; trivial; rfl) | (apply U.assignT; rfl; trivial; rfl) | (apply U.add; rfl; trivial; rfl; trivial; exact fun _ => wrap_i64 (by omega) (by omega); rfl) | (apply U.bin; rfl; trivial; rfl; trivial; rfl; rfl) | (apply U.loadE; rfl; rfl; trivial; rfl; rfl) | (apply U.idx; rfl; trivial; rfl; trivial; exact fun _ => (by omega); exact fun _ => (by assumption); exact fun _ => rfl; rfl) | refine Tri.skip ?_ | refine Tri.ret ?_ | (refine Tri.cond rfl (fun h => ?_) (fun h => ?_) <;> (try simp at h) <;> (try contradiction)) | fail)
      · refine Comes1.ret rfl ?_
        rw [hn, hstep, if_pos h]
      · refine ⟨i + 1, ⟨by omega, ?_⟩, by omega, Sub.of rfl rfl ⟨rfl, rfl, rfl, rfl, rfl, rfl, trivial⟩ trivial⟩
        rw [hn, hstep, if_neg h]; rfl
    · refine Comes1.ret rfl ?_
      have : i = l.length := by omega
      subst this
      rw [hn, List.drop_length, idxGo]; rfl
theorem contains_p (l : List ByteArray) (nn : Bool) (v : ByteArray) (hb : l.length ≤ big) : E.Pure Tryz.prog 78 [.sl nn (l.map tStr), tStr v] (.one (.t (tBool (inB v l)))) := by
  have h1 := index_p l nn v hb
  refine Pure.of1 Tryz.func78 rfl rfl (Nat.le_of_ble_eq_true rfl) rfl ?_
  repeat' (first | refine Tri.seq ?_ | refine Tri.reg ?_ | refine TriL.nil ?_ | (apply U.moveT; rfl; trivial; rfl) | (apply U.assignT; rfl; trivial; rfl) | (apply U.bin; rfl; trivial; rfl; trivial; rfl; rfl) | refine U.call2 rfl rfl rfl (by assumption) rfl ?_ | refine Tri.ret ?_ | fail)
  refine Comes1.ret rfl (retB ?_)
  have key : ∀ (l : List ByteArray) (k : Int), 0 ≤ k → (decide (idxGo v k l ≥ 0) = inB v l) := by
    intro l
    induction l with
    | nil => intro k _; rfl
    | cons x xs ih =>
      intro k hk
      rw [idxGo]
      split
      · rename_i e; subst e; simp [inB, hk]
      · rename_i e
        rw [ih (k + 1) (by omega)]
        simp only [inB, List.any_cons]
        rw [show decide (x = v) = false by simp; exact fun h => e h.symm]; rfl
  exact key l 0 (by omega)
/-- What is asked of lex.Name. -/
abbrev LexName : Prop := ∀ s : ByteArray, s.size ≤ big → E.Pure Tryz.prog 77 [tStr s] (.one (.t (tBool (nameOk s))))
theorem distinct_p (HN : LexName) (l : List ByteArray) (nn : Bool) (hb : l.length ≤ big) (hs : ∀ s, s ∈ l → s.size ≤ big) : E.Pure Tryz.prog 61 [.sl nn (l.map tStr)] (.one (.t (tBool (namesB l 64)))) := by
  unfold big at hb
  have hlen : (l.map tStr).length = l.length := by simp
  refine Pure.of1 Tryz.func61 rfl rfl (Nat.le_of_ble_eq_true rfl) rfl ?_
  repeat' (first | refine Tri.seq ?_ | refine Tri.reg ?_ | refine TriL.nil ?_ | (apply U.moveT; rfl; trivial; rfl) | (apply U.assignT; rfl; trivial; rfl) | (apply U.len; rfl; trivial; rfl) | refine Tri.block ?_ | fail)
  refine Tri.loopS (α := Nat) (fun i => ⟨[(7, .t (tInt i)), (6, .t (tInt l.length)), (5, .t (.sl nn (l.map tStr))), (2, .t (tBool false)), (0, .t (.sl nn (l.map tStr)))], Tryz.f61.ntmps, [], 0, 0⟩)
    (fun i => i ≤ l.length ∧ namesGo [] l = namesGo (l.take i) (l.drop i)) (fun i => l.length - i) 0 ?_ ?_ ?_
  · exact ⟨Nat.zero_le _, rfl⟩
  · refine Sub.of rfl rfl ⟨rfl, ?_, rfl, rfl, rfl, trivial⟩ trivial
    rw [← hlen]; rfl
  · rintro i ⟨hi, hn⟩
    repeat' (first | refine Tri.seq ?_ | refine Tri.reg ?_ | refine TriL.nil ?_ | (apply U.moveT; rfl; trivial; rfl) | (apply U.assignT; rfl; trivial; rfl) | (apply U.bin; rfl; trivial; rfl; trivial; rfl; rfl) | (apply U.len; rfl; trivial; rfl) | (apply U.pickb; rfl; trivial; rfl; (first | trivial | exact id | exact And.right | exact gvA | exact gvB | exact And.left | exact gvN | exact gvP2 | exact gvN2 | exact gvLA); rfl; (first | trivial | exact id | exact And.right | exact gvA | exact gvB | exact And.left | exact gvN | exact gvP2 | exact gvN2 | exact gvLA); rfl) | (apply G.moveT; rfl; (first | trivial | exact id | exact And.right | exact gvA | exact gvB | exact And.left | exact gvN | exact gvP2 | exact gvN2 | exact gvLA); rfl; rfl; rfl) | (apply G.bin; rfl; (first | trivial | exact id | exact And.right | exact gvA | exact gvB | exact And.left | exact gvN | exact gvP2 | exact gvN2 | exact gvLA); rfl; (first | trivial | exact id | exact And.right | exact gvA | exact gvB | exact And.left | exact gvN | exact gvP2 | exact gvN2 | exact gvLA); rfl; rfl; rfl; rfl) | (apply G.len; rfl; (first | trivial | exact id | exact And.right | exact gvA | exact gvB | exact And.left | exact gvN | exact gvP2 | exact gvN2 | exact gvLA); rfl; rfl; rfl) | refine Tri.skip ?_ | refine Tri.block ?_ | refine Tri.exit ?_ | refine Tri.ret ?_ | (refine Tri.cond rfl (fun h => ?_) (fun h => ?_) <;> (try simp at h) <;> (try contradiction)) | fail)
    · have hlt : i < l.length := by omega
      have hget := get_str hlt
      have hstep := namesGo_step hlt
      have h1 := HN l[i] (hs _ (List.getElem_mem hlt))
      have h2 := contains_p (l.take i) nn l[i] (by simp; unfold big; omega)
      rw [List.map_take] at h2
      repeat' (first | refine Tri.seq ?_ | refine Tri.reg ?_ | refine TriL.nil ?_ | (apply U.moveT; rfl; trivial; rfl) | (apply U.assignT; rfl; trivial; rfl) | (apply U.add; rfl; trivial; rfl; trivial; exact fun _ => wrap_i64 (by omega) (by omega); rfl) | (apply U.loadE; rfl; rfl; trivial; rfl; rfl) | (apply U.not; rfl; trivial; rfl) | (apply U.pickb; rfl; trivial; rfl; (first | trivial | exact id | exact And.right | exact gvA | exact gvB | exact And.left | exact gvN | exact gvP2 | exact gvN2 | exact gvLA); rfl; (first | trivial | exact id | exact And.right | exact gvA | exact gvB | exact And.left | exact gvN | exact gvP2 | exact gvN2 | exact gvLA); rfl) | (apply U.idx; rfl; trivial; rfl; trivial; exact fun _ => (by omega); exact fun _ => (by assumption); exact fun _ => rfl; rfl) | (apply G.moveT; rfl; (first | trivial | exact id | exact And.right | exact gvA | exact gvB | exact And.left | exact gvN | exact gvP2 | exact gvN2 | exact gvLA); rfl; rfl; rfl) | (apply G.cutHi; rfl; (first | trivial | exact id | exact And.right | exact gvA | exact gvB | exact And.left | exact gvN | exact gvP2 | exact gvN2 | exact gvLA); rfl; (first | trivial | exact id | exact And.right | exact gvA | exact gvB | exact And.left | exact gvN | exact gvP2 | exact gvN2 | exact gvLA); exact fun _ => (by first | omega | (simp at *; omega)); exact fun _ => (by first | omega | (simp at *; omega)); exact fun _ => (by intro i_ x_ h_; simp only [List.getElem?_map, Option.map_eq_some_iff] at h_; obtain ⟨_, _, rfl⟩ := h_; rfl); rfl; rfl; rfl) | refine U.call1 rfl rfl (by assumption) rfl ?_ | refine G.call2 rfl rfl (by (first | trivial | exact id | exact And.right | exact gvA | exact gvB | exact And.left | exact gvN | exact gvP2 | exact gvN2 | exact gvLA)) rfl (by (first | trivial | exact id | exact And.right | exact gvA | exact gvB | exact And.left | exact gvN | exact gvP2 | exact gvN2 | exact gvLA)) (by first | assumption | exact fun _ => by assumption) rfl rfl rfl ?_ | refine Tri.skip ?_ | refine Tri.ret ?_ | (refine Tri.cond rfl (fun h => ?_) (fun h => ?_) <;> (try simp at h) <;> (try contradiction)) | fail)
      · refine Comes1.ret rfl (retB ?_)
        rw [namesB, hn, hstep]
        rcases h with h | h <;> simp [h]
      · refine ⟨i + 1, ⟨by omega, ?_⟩, by omega, Sub.of rfl rfl ⟨rfl, rfl, rfl, rfl, rfl, trivial⟩ trivial⟩
        rw [hn, hstep, h.1, h.2]; simp
    · refine Comes1.ret rfl (retB ?_)
      have : i = l.length := by omega
      subst this
      rw [namesB, hn, List.drop_length, namesGo, Bool.eq_iff_iff]; simp; omega
theorem noneC_p (t : Ty) (hs : small t) : E.Pure Tryz.prog 62 [encTy t] (.one (.t (tBool (noneT t)))) := by
  have hb1 := small_names hs
  have hb2 := small_l hs
  unfold big at hb1 hb2
  have hlen := encTys_length t.l
  have hlen2 : (t.names.map tStr).length = t.names.length := by simp
  refine Pure.of1 Tryz.func62 rfl rfl (Nat.le_of_ble_eq_true rfl) rfl ?_
  rw [encTy_eta]
  repeat' (first | refine Tri.seq ?_ | refine Tri.reg ?_ | refine TriL.nil ?_ | (apply U.moveT; rfl; trivial; rfl) | (apply U.assignT; rfl; trivial; rfl) | (apply U.load; rfl; rfl; trivial; rfl; rfl; rfl) | (apply U.fld; rfl; trivial; rfl; infer_instance; decide; rfl) | (apply U.bin; rfl; trivial; rfl; trivial; rfl; rfl) | (apply U.pickb; rfl; trivial; rfl; (first | trivial | exact id | exact And.right | exact gvA | exact gvB | exact And.left | exact gvN | exact gvP2 | exact gvN2 | exact gvLA); rfl; (first | trivial | exact id | exact And.right | exact gvA | exact gvB | exact And.left | exact gvN | exact gvP2 | exact gvN2 | exact gvLA); rfl) | (apply U.boxA; rfl; rfl) | (apply G.load; rfl; rfl; (first | trivial | exact id | exact And.right | exact gvA | exact gvB | exact And.left | exact gvN | exact gvP2 | exact gvN2 | exact gvLA); rfl; rfl; rfl; rfl; rfl) | (apply G.fld; rfl; (first | trivial | exact id | exact And.right | exact gvA | exact gvB | exact And.left | exact gvN | exact gvP2 | exact gvN2 | exact gvLA); rfl; infer_instance; decide; rfl; rfl; rfl) | (apply G.add; rfl; (first | trivial | exact id | exact And.right | exact gvA | exact gvB | exact And.left | exact gvN | exact gvP2 | exact gvN2 | exact gvLA); rfl; (first | trivial | exact id | exact And.right | exact gvA | exact gvB | exact And.left | exact gvN | exact gvP2 | exact gvN2 | exact gvLA); exact fun _ => wrap_i64 (by omega) (by omega); rfl; rfl; rfl) | (apply G.bin; rfl; (first | trivial | exact id | exact And.right | exact gvA | exact gvB | exact And.left | exact gvN | exact gvP2 | exact gvN2 | exact gvLA); rfl; (first | trivial | exact id | exact And.right | exact gvA | exact gvB | exact And.left | exact gvN | exact gvP2 | exact gvN2 | exact gvLA); rfl; rfl; rfl; rfl) | (apply G.len; rfl; (first | trivial | exact id | exact And.right | exact gvA | exact gvB | exact And.left | exact gvN | exact gvP2 | exact gvN2 | exact gvLA); rfl; rfl; rfl) | refine Tri.ret ?_ | fail)
  all_goals (refine Comes1.ret rfl (retB ?_); rw [Bool.eq_iff_iff]; simp [noneT, encTys_length, -List.length_eq_zero_iff]; try omega)
end Go.Proofs.YtmhbibfkhbaclaaGreatDoor

/- Layer 13, the code: within. -/
namespace Go.Proofs.YtmhbibfkhbaclaaGreatDoor
open Go E
set_option maxRecDepth 100000
set_option maxHeartbeats 4000000
set_option linter.unusedVariables false
set_option linter.unusedSimpArgs false
attribute [local irreducible] Tri TriL TriO PO VO E.Pure DOb
theorem lkB {a b : Bool} (h : a = b) : some (PV.t (.v (.bool a))) = some (PV.t (tBool b)) := by rw [h]; rfl
theorem namesB_iff (l : List ByteArray) (m : Int) : namesB l m = true ↔ namesGo [] l = true ∧ 1 ≤ (l.length : Int) ∧ (l.length : Int) ≤ m := by
  simp [namesB, and_assoc]
theorem ownB_low {t : Ty} (h1 : 1 ≤ t.kind) (h2 : t.kind ≤ 11) : ownB t = (decide (t.r = 0) && decide (t.names.length = 0) && decide (t.l.length = 0)) := by
  have e1 : ¬(t.kind = 20 ∨ t.kind = 21) := by omega
  have e2 : ¬(t.kind = 13 ∨ t.kind = 15) := by omega
  have e3 : ¬ t.kind = 16 := by omega
  have e4 : ¬ t.kind = 19 := by omega
  have e5 : ¬(t.kind = 12 ∨ t.kind = 17) := by omega
  have e6 : ¬ t.kind = 14 := by omega
  have e7 : ¬ t.kind = 18 := by omega
  unfold ownB
  rw [if_neg e1, if_neg e2, if_neg e3, if_neg e4, if_neg e5, if_neg e6, if_neg e7, Bool.eq_iff_iff]
  by_cases hr : t.r ≠ 0 ∨ t.l.length > 64
  · rw [if_pos hr]; simp [-List.length_eq_zero_iff]; omega
  · rw [if_neg hr]
    by_cases hn : t.names.length > 0
    · rw [if_pos hn]; simp; intro _ e; simp [e] at hn
    · rw [if_neg hn]; simp [-List.length_eq_zero_iff]; omega
mutual
def withinN : Ty → Int → Int
  | .mk k nn ns nl l r, d => if ownB (.mk k nn ns nl l r) = false ∨ d > 16 then 0 else withinGo k 1 l d
def withinGo (k : Int) : Int → List Ty → Int → Int
  | n, [], d => n
  | n, t :: ts, d => if (k = 15 ∨ k = 18) ∧ noneT t = true then withinGo k n ts d else if withinN t (d + 1) = 0 ∨ n + withinN t (d + 1) > 500 then 0 else withinGo k (n + withinN t (d + 1)) ts d
end
theorem withinN_eq (t : Ty) (d : Int) : withinN t d = if ownB t = false ∨ d > 16 then 0 else withinGo t.kind 1 t.l d := by cases t; rw [withinN]; rfl
theorem withinGo_step {k n d : Int} {l : List Ty} {i : Nat} (h : i < l.length) : withinGo k n (l.drop i) d = if (k = 15 ∨ k = 18) ∧ noneT l[i] = true then withinGo k n (l.drop (i + 1)) d else
    if withinN l[i] (d + 1) = 0 ∨ n + withinN l[i] (d + 1) > 500 then 0 else withinGo k (n + withinN l[i] (d + 1)) (l.drop (i + 1)) d := by
  rw [List.drop_eq_getElem_cons h, withinGo]
mutual
theorem withinN_le : ∀ (t : Ty) (d : Int), 0 ≤ withinN t d ∧ withinN t d ≤ 500
  | .mk k nn ns nl l r, d => by
    rw [withinN]
    split
    · omega
    · exact withinGo_le k 1 l d (by omega) (by omega)
theorem withinGo_le (k : Int) : ∀ (n : Int) (l : List Ty) (d : Int), 0 ≤ n → n ≤ 500 → 0 ≤ withinGo k n l d ∧ withinGo k n l d ≤ 500
  | n, [], d, h1, h2 => by rw [withinGo]; omega
  | n, t :: ts, d, h1, h2 => by
    have := withinN_le t (d + 1)
    rw [withinGo]
    split
    · exact withinGo_le k n ts d h1 h2
    · split
      · omega
      · exact withinGo_le k _ ts d (by omega) (by omega)
end
theorem within_p (HN : LexName) : ∀ (m : Nat) (t : Ty) (d : Int), SizeOf.sizeOf t ≤ m → small t → -1000 ≤ d → d ≤ 1000 → E.Pure Tryz.prog 38 [encTy t, tInt d] (.one (.t (tInt (withinN t d)))) := by
  intro m
  induction m with
  | zero => intro t n hm; cases t; simp at hm
  | succ m ih =>
    intro t d hm hs hn1 hn2
    have hdis := distinct_p HN t.names t.nn (small_names hs) (small_name hs)
    have hb1 := small_names hs
    have hb2 := small_l hs
    unfold big at hb1 hb2
    have hlen := encTys_length t.l
    have hlen2 : (t.names.map tStr).length = t.names.length := by simp
    refine Pure.of1 Tryz.func38 rfl rfl (Nat.le_of_ble_eq_true rfl) rfl ?_
    rw [encTy_eta]
    refine Tri.mid ⟨[(2, .ptr 0 0), (1, .t (tInt d))], Tryz.f38.ntmps, [(0, .obj [.t (.v (.int .i64 t.kind)), .t (.sl t.nn (t.names.map tStr)), .t (.sl t.nl (encTys t.l)), .t (.v (.int .i64 t.r))])], 0, 1⟩ ?_ ?_
    · repeat' (first | refine Tri.reg ?_ | refine TriL.nil ?_ | (apply U.assignT; rfl; trivial; rfl) | (apply U.boxA; rfl; rfl) | fail)
      exact Sub.of rfl rfl ⟨rfl, rfl, trivial⟩ ⟨rfl, trivial⟩
    refine Tri.mid ⟨[(5, .t (tBool (decide (t.names.length = 0) && decide (t.r = 0)))), (2, .ptr 0 0), (1, .t (tInt d))], Tryz.f38.ntmps, [(0, .obj [.t (.v (.int .i64 t.kind)), .t (.sl t.nn (t.names.map tStr)), .t (.sl t.nl (encTys t.l)), .t (.v (.int .i64 t.r))])], 0, 1⟩ ?_ ?_
    · repeat' (first | refine Tri.reg ?_ | refine TriL.nil ?_ | (apply U.moveT; rfl; trivial; rfl) | (apply U.assignT; rfl; trivial; rfl) | (apply U.load; rfl; rfl; trivial; rfl; rfl; rfl) | (apply U.fld; rfl; trivial; rfl; infer_instance; decide; rfl) | (apply U.bin; rfl; trivial; rfl; trivial; rfl; rfl) | (apply U.len; rfl; trivial; rfl) | (apply U.pickb; rfl; trivial; rfl; (first | trivial | exact id | exact And.right | exact gvA | exact gvB | exact And.left | exact gvN | exact gvP2 | exact gvN2 | exact gvLA); rfl; (first | trivial | exact id | exact And.right | exact gvA | exact gvB | exact And.left | exact gvN | exact gvP2 | exact gvN2 | exact gvLA); rfl) | (apply G.load; rfl; rfl; (first | trivial | exact id | exact And.right | exact gvA | exact gvB | exact And.left | exact gvN | exact gvP2 | exact gvN2 | exact gvLA); rfl; rfl; rfl; rfl; rfl) | (apply G.fld; rfl; (first | trivial | exact id | exact And.right | exact gvA | exact gvB | exact And.left | exact gvN | exact gvP2 | exact gvN2 | exact gvLA); rfl; infer_instance; decide; rfl; rfl; rfl) | (apply G.bin; rfl; (first | trivial | exact id | exact And.right | exact gvA | exact gvB | exact And.left | exact gvN | exact gvP2 | exact gvN2 | exact gvLA); rfl; (first | trivial | exact id | exact And.right | exact gvA | exact gvB | exact And.left | exact gvN | exact gvP2 | exact gvN2 | exact gvLA); rfl; rfl; rfl; rfl) | fail)
      refine Sub.of rfl rfl ⟨lkB ?_, rfl, rfl, trivial⟩ ⟨rfl, trivial⟩
      rw [Bool.eq_iff_iff]; simp
    refine Tri.mid ⟨[(6, .t (tBool false)), (5, .t (tBool (decide (t.names.length = 0) && decide (t.r = 0)))), (2, .ptr 0 0), (1, .t (tInt d))], Tryz.f38.ntmps, [(0, .obj [.t (.v (.int .i64 t.kind)), .t (.sl t.nn (t.names.map tStr)), .t (.sl t.nl (encTys t.l)), .t (.v (.int .i64 t.r))])], 0, 1⟩ ?_ ?_
    · repeat' (first | refine Tri.reg ?_ | refine TriL.nil ?_ | (apply U.assignT; rfl; trivial; rfl) | fail)
      exact Sub.of rfl rfl ⟨rfl, rfl, rfl, rfl, trivial⟩ ⟨rfl, trivial⟩
    refine Tri.mid ⟨[(6, .t (tBool (ownB t))), (2, .ptr 0 0), (1, .t (tInt d))], Tryz.f38.ntmps, [(0, .obj [.t (.v (.int .i64 t.kind)), .t (.sl t.nn (t.names.map tStr)), .t (.sl t.nl (encTys t.l)), .t (.v (.int .i64 t.r))])], 0, 1⟩ ?_ ?_
    · refine Tri.mid ⟨[(21, .t (tInt t.kind)), (6, .t (tBool false)), (5, .t (tBool (decide (t.names.length = 0) && decide (t.r = 0)))), (2, .ptr 0 0), (1, .t (tInt d))], Tryz.f38.ntmps, [(0, .obj [.t (.v (.int .i64 t.kind)), .t (.sl t.nn (t.names.map tStr)), .t (.sl t.nl (encTys t.l)), .t (.v (.int .i64 t.r))])], 0, 1⟩ ?_ ?_
      · repeat' (first | refine Tri.reg ?_ | refine TriL.nil ?_ | (apply U.load; rfl; rfl; trivial; rfl; rfl; rfl) | (apply U.fld; rfl; trivial; rfl; infer_instance; decide; rfl) | fail)
        exact Sub.of rfl rfl ⟨rfl, rfl, rfl, rfl, rfl, trivial⟩ ⟨rfl, trivial⟩
      refine Tri.block ?_
      refine Tri.mid ⟨[(22, .t (tBool (decide (1 ≤ t.kind ∧ t.kind ≤ 11)))), (21, .t (tInt t.kind)), (6, .t (tBool false)), (5, .t (tBool (decide (t.names.length = 0) && decide (t.r = 0)))), (2, .ptr 0 0), (1, .t (tInt d))], Tryz.f38.ntmps, [(0, .obj [.t (.v (.int .i64 t.kind)), .t (.sl t.nn (t.names.map tStr)), .t (.sl t.nl (encTys t.l)), .t (.v (.int .i64 t.r))])], 0, 1⟩ ?_ ?_
      · repeat' (first | refine Tri.seq ?_ | refine Tri.reg ?_ | refine TriL.nil ?_ | (apply U.assignT; rfl; trivial; rfl) | (apply U.bin; rfl; trivial; rfl; trivial; rfl; rfl) | refine Tri.skip ?_ | (refine Tri.cond rfl (fun h => ?_) (fun h => ?_) <;> (try simp at h) <;> (try contradiction)) | fail)
        all_goals (refine Sub.of rfl rfl ⟨lkB ?_, rfl, rfl, rfl, rfl, rfl, trivial⟩ ⟨rfl, trivial⟩; rw [Bool.eq_iff_iff]; simp; omega)
      repeat' (first | refine Tri.seq ?_ | refine Tri.reg ?_ | refine TriL.nil ?_ | (apply U.moveT; rfl; trivial; rfl) | (apply U.assignT; rfl; trivial; rfl) | (apply U.load; rfl; rfl; trivial; rfl; rfl; rfl) | (apply U.fld; rfl; trivial; rfl; infer_instance; decide; rfl) | (apply U.add; rfl; trivial; rfl; trivial; exact fun _ => wrap_i64 (by omega) (by omega); rfl) | (apply U.bin; rfl; trivial; rfl; trivial; rfl; rfl) | (apply U.len; rfl; trivial; rfl) | (apply U.pickb; rfl; trivial; rfl; (first | trivial | exact id | exact And.right | exact gvA | exact gvB | exact And.left | exact gvN | exact gvP2 | exact gvN2 | exact gvLA); rfl; (first | trivial | exact id | exact And.right | exact gvA | exact gvB | exact And.left | exact gvN | exact gvP2 | exact gvN2 | exact gvLA); rfl) | (apply G.load; rfl; rfl; (first | trivial | exact id | exact And.right | exact gvA | exact gvB | exact And.left | exact gvN | exact gvP2 | exact gvN2 | exact gvLA); rfl; rfl; rfl; rfl; rfl) | (apply G.fld; rfl; (first | trivial | exact id | exact And.right | exact gvA | exact gvB | exact And.left | exact gvN | exact gvP2 | exact gvN2 | exact gvLA); rfl; infer_instance; decide; rfl; rfl; rfl) | (apply G.bin; rfl; (first | trivial | exact id | exact And.right | exact gvA | exact gvB | exact And.left | exact gvN | exact gvP2 | exact gvN2 | exact gvLA); rfl; (first | trivial | exact id | exact And.right | exact gvA | exact gvB | exact And.left | exact gvN | exact gvP2 | exact gvN2 | exact gvLA); rfl; rfl; rfl; rfl) | (apply G.len; rfl; (first | trivial | exact id | exact And.right | exact gvA | exact gvB | exact And.left | exact gvN | exact gvP2 | exact gvN2 | exact gvLA); rfl; rfl; rfl) | refine G.call1 rfl rfl (by (first | trivial | exact id | exact And.right | exact gvA | exact gvB | exact And.left | exact gvN | exact gvP2 | exact gvN2 | exact gvLA)) (by first | assumption | exact fun _ => by assumption) rfl rfl rfl ?_ | refine Tri.skip ?_ | (refine Tri.cond rfl (fun h => ?_) (fun h => ?_) <;> (try simp at h) <;> (try contradiction)) | fail)
      · refine Sub.of rfl rfl ⟨lkB ?_, rfl, rfl, trivial⟩ ⟨rfl, trivial⟩
        rw [ownB_low h.1 h.2, Bool.eq_iff_iff]; simp [encTys_length, -List.length_eq_zero_iff]; omega
      all_goals (refine Sub.of rfl rfl ⟨lkB ?_, rfl, rfl, trivial⟩ ⟨rfl, trivial⟩; clear hdis ih; simp only [encTys_length, List.length_map] at *; rw [Bool.eq_iff_iff]; simp [ownB, -List.length_eq_zero_iff, *] <;> (try omega))
      all_goals (simp only [namesB_iff]; by_cases hg : namesGo [] t.names = true <;> simp only [hg, Bool.false_eq_true, true_and, false_and, and_false] <;> (try omega))
    clear hdis
    repeat' (first | refine Tri.seq ?_ | refine Tri.reg ?_ | refine TriL.nil ?_ | (apply U.moveT; rfl; trivial; rfl) | (apply U.assignT; rfl; trivial; rfl) | (apply U.load; rfl; rfl; trivial; rfl; rfl; rfl) | (apply U.fld; rfl; trivial; rfl; infer_instance; decide; rfl) | (apply U.len; rfl; trivial; rfl) | (apply U.not; rfl; trivial; rfl) | (apply U.pickb; rfl; trivial; rfl; (first | trivial | exact id | exact And.right | exact gvA | exact gvB | exact And.left | exact gvN | exact gvP2 | exact gvN2 | exact gvLA); rfl; (first | trivial | exact id | exact And.right | exact gvA | exact gvB | exact And.left | exact gvN | exact gvP2 | exact gvN2 | exact gvLA); rfl) | (apply G.moveT; rfl; (first | trivial | exact id | exact And.right | exact gvA | exact gvB | exact And.left | exact gvN | exact gvP2 | exact gvN2 | exact gvLA); rfl; rfl; rfl) | (apply G.bin; rfl; (first | trivial | exact id | exact And.right | exact gvA | exact gvB | exact And.left | exact gvN | exact gvP2 | exact gvN2 | exact gvLA); rfl; (first | trivial | exact id | exact And.right | exact gvA | exact gvB | exact And.left | exact gvN | exact gvP2 | exact gvN2 | exact gvLA); rfl; rfl; rfl; rfl) | refine Tri.skip ?_ | refine Tri.block ?_ | refine Tri.ret ?_ | (refine Tri.cond rfl (fun h => ?_) (fun h => ?_) <;> (try simp at h) <;> (try contradiction)) | fail)
    · refine Comes1.ret rfl ?_
      rw [withinN_eq, if_pos (by rcases h with h | h; exact .inl h; exact .inr h)]; rfl
    · refine Tri.loopS (α := Nat × Int) (fun a => ⟨[(163, .t (tInt a.1)), (162, .t (tInt t.l.length)), (161, .t (.sl t.nl (encTys t.l))), (7, .t (tInt a.2)), (2, .ptr 0 0), (1, .t (tInt d))], Tryz.f38.ntmps, [(0, .obj [.t (.v (.int .i64 t.kind)), .t (.sl t.nn (t.names.map tStr)), .t (.sl t.nl (encTys t.l)), .t (.v (.int .i64 t.r))])], 0, 1⟩)
        (fun a => a.1 ≤ t.l.length ∧ withinN t d = withinGo t.kind a.2 (t.l.drop a.1) d ∧ 1 ≤ a.2 ∧ a.2 ≤ 500) (fun a => t.l.length - a.1) (0, 1) ?_ ?_ ?_
      · refine ⟨Nat.zero_le _, ?_, by simp, by simp⟩
        rw [withinN_eq, if_neg (by rintro (e | e); rw [h.1] at e; cases e; omega)]; rfl
      · refine Sub.of rfl rfl ⟨rfl, ?_, rfl, rfl, rfl, rfl, trivial⟩ ⟨rfl, trivial⟩
        rw [← hlen]; rfl
      · rintro ⟨i, n⟩ ⟨hi, hp, hn3, hn4⟩
        dsimp only at hi hp hn3 hn4 ⊢
        repeat' (first | refine Tri.seq ?_ | refine Tri.reg ?_ | refine TriL.nil ?_ | (apply U.moveT; rfl; trivial; rfl) | (apply U.assignT; rfl; trivial; rfl) | (apply U.bin; rfl; trivial; rfl; trivial; rfl; rfl) | refine Tri.skip ?_ | refine Tri.block ?_ | refine Tri.exit ?_ | refine Tri.ret ?_ | (refine Tri.cond rfl (fun h => ?_) (fun h => ?_) <;> (try simp at h) <;> (try contradiction)) | fail)
        · have hlt : i < t.l.length := by omega
          have hget := get_ty hlt
          have hstep := withinGo_step (k := t.kind) (n := n) (d := d) hlt
          have hw := withinN_le t.l[i] (d + 1)
          have hnone := noneC_p t.l[i] (smalls_get (small_ls hs) (List.getElem?_eq_getElem hlt))
          have hwith := ih t.l[i] (d + 1) (by have := size_get hlt t rfl; omega) (smalls_get (small_ls hs) (List.getElem?_eq_getElem hlt)) (by omega) (by omega)
          rw [encTy_eta] at hnone hwith
          repeat' (first | refine Tri.seq ?_ | refine Tri.reg ?_ | refine TriL.nil ?_ | (apply U.moveT; rfl; trivial; rfl) | (apply U.assignT; rfl; trivial; rfl) | (apply U.load; rfl; rfl; trivial; rfl; rfl; rfl) | (apply U.fld; rfl; trivial; rfl; infer_instance; decide; rfl) | (apply U.add; rfl; trivial; rfl; trivial; exact fun _ => wrap_i64 (by omega) (by omega); rfl) | (apply U.bin; rfl; trivial; rfl; trivial; rfl; rfl) | (apply U.loadES; rfl; rfl; trivial; rfl; rfl; rfl) | (apply U.loadS; rfl; rfl; trivial; rfl; rfl; rfl; rfl; rfl) | (apply U.pickb; rfl; trivial; rfl; (first | trivial | exact id | exact And.right | exact gvA | exact gvB | exact And.left | exact gvN | exact gvP2 | exact gvN2 | exact gvLA); rfl; (first | trivial | exact id | exact And.right | exact gvA | exact gvB | exact And.left | exact gvN | exact gvP2 | exact gvN2 | exact gvLA); rfl) | (apply U.idx; rfl; trivial; rfl; trivial; exact fun _ => (by omega); exact fun _ => (by assumption); exact fun _ => rfl; rfl) | (apply U.alloc; rfl; rfl; rfl; rfl) | (apply U.storeS; rfl; rfl; rfl; rfl; rfl; rfl; rfl; rfl) | (apply G.moveT; rfl; (first | trivial | exact id | exact And.right | exact gvA | exact gvB | exact And.left | exact gvN | exact gvP2 | exact gvN2 | exact gvLA); rfl; rfl; rfl) | (apply G.load; rfl; rfl; (first | trivial | exact id | exact And.right | exact gvA | exact gvB | exact And.left | exact gvN | exact gvP2 | exact gvN2 | exact gvLA); rfl; rfl; rfl; rfl; rfl) | (apply G.fld; rfl; (first | trivial | exact id | exact And.right | exact gvA | exact gvB | exact And.left | exact gvN | exact gvP2 | exact gvN2 | exact gvLA); rfl; infer_instance; decide; rfl; rfl; rfl) | (apply G.bin; rfl; (first | trivial | exact id | exact And.right | exact gvA | exact gvB | exact And.left | exact gvN | exact gvP2 | exact gvN2 | exact gvLA); rfl; (first | trivial | exact id | exact And.right | exact gvA | exact gvB | exact And.left | exact gvN | exact gvP2 | exact gvN2 | exact gvLA); rfl; rfl; rfl; rfl) | (apply G.loadS; rfl; rfl; (first | trivial | exact id | exact And.right | exact gvA | exact gvB | exact And.left | exact gvN | exact gvP2 | exact gvN2 | exact gvLA); rfl; rfl; rfl; rfl; rfl; rfl; rfl) | refine U.call2 rfl rfl rfl (by assumption) rfl ?_ | refine G.call1 rfl rfl (by (first | trivial | exact id | exact And.right | exact gvA | exact gvB | exact And.left | exact gvN | exact gvP2 | exact gvN2 | exact gvLA)) (by first | assumption | exact fun _ => by assumption) rfl rfl rfl ?_ | refine Tri.skip ?_ | refine Tri.exit ?_ | refine Tri.ret ?_ | (refine Tri.cond rfl (fun h => ?_) (fun h => ?_) <;> (try simp at h) <;> (try contradiction)) | fail)
          · refine ⟨(i + 1, n), ⟨by dsimp only; omega, ?_, hn3, hn4⟩, by dsimp only; omega, Sub.ofn (by decide) rfl ⟨rfl, rfl, rfl, rfl, rfl, rfl, trivial⟩ ⟨rfl, trivial⟩ rfl rfl⟩
            rw [hp, hstep, if_pos h]
          · refine Comes1.ret rfl ?_
            rw [hp, hstep, if_neg (by rintro ⟨e1, e2⟩; have := ‹t.kind = 15 ∨ t.kind = 18 → noneT t.l[i] = false› e1; rw [this] at e2; cases e2), if_pos (by omega)]; rfl
          · refine ⟨(i + 1, n + withinN t.l[i] (d + 1)), ⟨by dsimp only; omega, ?_, by dsimp only; omega, by dsimp only; omega⟩, by dsimp only; omega, Sub.ofn (by decide) rfl ⟨rfl, rfl, rfl, rfl, rfl, rfl, trivial⟩ ⟨rfl, trivial⟩ rfl rfl⟩
            rw [hp, hstep, if_neg (by rintro ⟨e1, e2⟩; have := ‹t.kind = 15 ∨ t.kind = 18 → noneT t.l[i] = false› e1; rw [this] at e2; cases e2), if_neg (by omega)]
        · refine Comes1.ret rfl ?_
          have : i = t.l.length := by omega
          subst this
          rw [hp, List.drop_length, withinGo]
end Go.Proofs.YtmhbibfkhbaclaaGreatDoor

/- Layer 13, the code: Check; what within is. -/
namespace Go.Proofs.YtmhbibfkhbaclaaGreatDoor
open Go E
set_option maxRecDepth 100000
set_option maxHeartbeats 4000000
set_option linter.unusedVariables false
set_option linter.unusedSimpArgs false
attribute [local irreducible] Tri TriL TriO PO VO E.Pure DOb
theorem none_parts {t : Ty} (h : ownB t = true) : t.kind ≠ 0 := by
  intro e; simp [ownB, e] at h
theorem deepB_own {t : Ty} {n : Int} (h : deepB t n = true) : ownB t = true := by
  rw [deepB_eq] at h; simp at h; exact h.1.2
mutual
theorem within_law : ∀ (t : Ty) (n : Int), withinN t (n + 1) = if deepB t n = true ∧ partsN t ≤ 500 then partsN t else 0
  | .mk k nn ns nl l r, n => by
    rw [withinN, deepB, partsN]
    cases ho : ownB (.mk k nn ns nl l r) with
    | false => simp
    | true =>
      by_cases hn : n ≥ 16
      · simp [hn]; intro h; omega
      · have := withinGo_law k 1 l n (by omega) (by omega)
        rw [if_neg (by simp; omega), this]
        simp [hn]
theorem withinGo_law (k : Int) : ∀ (m : Int) (l : List Ty) (n : Int), m ≤ 500 → 1 ≤ m → withinGo k m l (n + 1) = if deepsB k l n = true ∧ partsGo m l ≤ 500 then partsGo m l else 0
  | m, [], n, hm, h1 => by rw [withinGo, deepsB, partsGo]; simp [hm]
  | m, t :: ts, n, hm, h1 => by
    have ih := within_law t (n + 1)
    have hp := partsN_le t
    rw [withinGo, deepsB, partsGo, if_pos hm]
    by_cases hc : (k = 15 ∨ k = 18) ∧ noneT t = true
    · have hk : t.kind = 0 := by have := hc.2; simp [noneT] at this; exact this.1.1.1
      rw [if_pos hc, withinGo_law k m ts n hm h1]
      simp [hc.1, hc.2, hk]
    · rw [if_neg hc]
      have hd : (decide (k = 15 ∨ k = 18) && noneT t || deepB t (n + 1)) = deepB t (n + 1) := by
        have : (decide (k = 15 ∨ k = 18) && noneT t) = false := by
          cases h1 : decide (k = 15 ∨ k = 18) <;> cases h2 : noneT t <;> simp_all
        rw [this]; rfl
      rw [hd, ih]
      cases hdb : deepB t (n + 1) with
      | false => simp
      | true =>
        have hk := none_parts (deepB_own hdb)
        have hg := partsGo_le (m + partsN t) ts
        rw [if_pos hk]
        by_cases h5 : partsN t ≤ 500
        · simp only [true_and, if_pos h5]
          by_cases h6 : m + partsN t ≤ 500
          · rw [if_neg (by omega), withinGo_law k _ ts n h6 (by omega)]; simp
          · rw [if_pos (by omega), if_neg (by omega)]
        · have e : ¬ (deepsB k ts n = true ∧ partsGo (m + partsN t) ts ≤ 500) := by rintro ⟨_, e⟩; omega
          simp [if_neg h5]; intro e1 e2; exact absurd ⟨e1, e2⟩ e
end
theorem within_may (t : Ty) : decide (withinN t 1 = 0) = !mayB t := by
  have h := within_law t 0
  have hp := partsN_le t
  simp only [Int.zero_add] at h
  rw [h, mayB]
  cases deepB t 0 <;> by_cases h5 : partsN t ≤ 500 <;> simp [h5] <;> omega
theorem check_p (HN : LexName) (t : Ty) (hs : small t) : E.Pure Tryz.prog 26 [encTy t] (.one (.t (tInt (if mayB t then 0 else 1)))) := by
  have hw := within_p HN _ t 1 (Nat.le_refl _) hs (by omega) (by omega)
  have hm := within_may t
  refine Pure.of1 Tryz.func26 rfl rfl (Nat.le_of_ble_eq_true rfl) rfl ?_
  rw [encTy_eta] at *
  repeat' (first | refine Tri.seq ?_ | refine Tri.reg ?_ | refine TriL.nil ?_ | (apply U.assignT; rfl; trivial; rfl) | (apply U.bin; rfl; trivial; rfl; trivial; rfl; rfl) | (apply U.loadS; rfl; rfl; trivial; rfl; rfl; rfl; rfl; rfl) | (apply U.boxA; rfl; rfl) | refine U.call2 rfl rfl rfl (by assumption) rfl ?_ | refine Tri.skip ?_ | refine Tri.ret ?_ | (refine Tri.cond rfl (fun h => ?_) (fun h => ?_) <;> (try simp at h) <;> (try contradiction)) | fail)
  · refine Comes1.ret rfl ?_
    rw [h] at hm; rw [if_neg (by simpa using hm)]; rfl
  · refine Comes1.ret rfl ?_
    rw [if_pos (by simpa [h] using hm)]; rfl
end Go.Proofs.YtmhbibfkhbaclaaGreatDoor

/- Layer 13, the code: CheckSig. -/
namespace Go.Proofs.YtmhbibfkhbaclaaGreatDoor
open Go E
set_option maxRecDepth 100000
set_option maxHeartbeats 4000000
set_option linter.unusedVariables false
set_option linter.unusedSimpArgs false
attribute [local irreducible] Tri TriL TriO PO VO E.Pure DOb
end Go.Proofs.YtmhbibfkhbaclaaGreatDoor

/- Layer 13, the code: small numbers, their floats. -/
namespace Go.Proofs.YtmhbibfkhbaclaaGreatDoor
open Go E
set_option maxRecDepth 100000
set_option maxHeartbeats 4000000
set_option linter.unusedVariables false
set_option linter.unusedSimpArgs false
attribute [local irreducible] Tri TriL TriO PO VO E.Pure DOb
def allR (p : Nat → Bool) : Nat → Nat → Bool
  | 0, lo => p lo
  | d + 1, lo => allR p d lo && allR p d (lo + 2 ^ d)
theorem allR_spec {p : Nat → Bool} : ∀ (d lo : Nat), allR p d lo = true → ∀ n, lo ≤ n → n < lo + 2 ^ d → p n = true
  | 0, lo, h, n, h1, h2 => by obtain rfl : n = lo := by simp at h2; omega
                              exact h
  | d + 1, lo, h, n, h1, h2 => by
    simp only [allR, Bool.and_eq_true] at h
    have e : 2 ^ (d + 1) = 2 ^ d + 2 ^ d := by rw [Nat.pow_succ]; omega
    by_cases hn : n < lo + 2 ^ d
    · exact allR_spec d lo h.1 n h1 hn
    · exact allR_spec d _ h.2 n (by omega) (by omega)
theorem f2i_0 : allR (fun n => decide (floatToIntVal .f64 (floatOfInt .f64 (n : Int)) .i64 = some (n : Int))) 10 0 = true := by kernel_rfl
theorem f2i_1 : allR (fun n => decide (floatToIntVal .f64 (floatOfInt .f64 (n : Int)) .i64 = some (n : Int))) 10 1024 = true := by kernel_rfl
theorem f2i_2 : allR (fun n => decide (floatToIntVal .f64 (floatOfInt .f64 (n : Int)) .i64 = some (n : Int))) 10 2048 = true := by kernel_rfl
theorem f2i_3 : allR (fun n => decide (floatToIntVal .f64 (floatOfInt .f64 (n : Int)) .i64 = some (n : Int))) 10 3072 = true := by kernel_rfl
theorem f2i_4 : allR (fun n => decide (floatToIntVal .f64 (floatOfInt .f64 (n : Int)) .i64 = some (n : Int))) 10 4096 = true := by kernel_rfl
theorem f2i_5 : allR (fun n => decide (floatToIntVal .f64 (floatOfInt .f64 (n : Int)) .i64 = some (n : Int))) 10 5120 = true := by kernel_rfl
theorem f2i_6 : allR (fun n => decide (floatToIntVal .f64 (floatOfInt .f64 (n : Int)) .i64 = some (n : Int))) 10 6144 = true := by kernel_rfl
theorem f2i_7 : allR (fun n => decide (floatToIntVal .f64 (floatOfInt .f64 (n : Int)) .i64 = some (n : Int))) 10 7168 = true := by kernel_rfl
def fl (n : Int) : Nat := floatOfInt .f64 n
theorem f2i {n : Int} (h0 : 0 ≤ n) (h1 : n < 8192) : floatToIntVal .f64 (fl n) .i64 = some n := by
  have key : ∀ k : Nat, k < 8192 → floatToIntVal .f64 (floatOfInt .f64 (k : Int)) .i64 = some (k : Int) := by
    intro k hk
    have : k < 1024 ∨ (1024 ≤ k ∧ k < 2048) ∨ (2048 ≤ k ∧ k < 3072) ∨ (3072 ≤ k ∧ k < 4096) ∨ (4096 ≤ k ∧ k < 5120) ∨ (5120 ≤ k ∧ k < 6144) ∨ (6144 ≤ k ∧ k < 7168) ∨ (7168 ≤ k ∧ k < 8192) := by omega
    rcases this with h | h | h | h | h | h | h | h
    · simpa using allR_spec 10 0 f2i_0 k (by omega) (by omega)
    · simpa using allR_spec 10 _ f2i_1 k (by omega) (by omega)
    · simpa using allR_spec 10 _ f2i_2 k (by omega) (by omega)
    · simpa using allR_spec 10 _ f2i_3 k (by omega) (by omega)
    · simpa using allR_spec 10 _ f2i_4 k (by omega) (by omega)
    · simpa using allR_spec 10 _ f2i_5 k (by omega) (by omega)
    · simpa using allR_spec 10 _ f2i_6 k (by omega) (by omega)
    · simpa using allR_spec 10 _ f2i_7 k (by omega) (by omega)
  have := key n.toNat (by omega)
  rwa [Int.toNat_of_nonneg h0] at this
def bytesN (n : Int) : Int := if n ≤ 256 then 1 else if n ≤ 65536 then 2 else 4
def upN (n k : Int) : Int := (n + k - 1) / k * k
end Go.Proofs.YtmhbibfkhbaclaaGreatDoor
