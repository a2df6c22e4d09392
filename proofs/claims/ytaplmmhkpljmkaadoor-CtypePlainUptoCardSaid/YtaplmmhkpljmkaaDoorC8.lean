/- Layer 13, the code: within. -/
import Derived.Test.YtaplmmhkpljmkaaDoorC7
namespace Go.Proofs.YtaplmmhkpljmkaaDoor
open Go E
set_option maxRecDepth 100000
set_option maxHeartbeats 4000000
set_option linter.unusedVariables false
set_option linter.unusedSimpArgs false
attribute [local irreducible] Tri TriL TriO PO VO E.Pure DOb
theorem lkB {a b : Bool} (h : a = b) : some (PV.t (.v (.bool a))) = some (PV.t (tBool b)) := by rw [h]; rfl
theorem namesB_iff (l : List ByteArray) (m : Int) : namesB l m = true ↔ namesGo [] l = true ∧ 1 ≤ (l.length : Int) ∧ (l.length : Int) ≤ m := by
  simp [namesB, and_assoc]
theorem ownB_low {t : Ty} (h1 : 1 ≤ t.kind) (h2 : t.kind ≤ 11) : ownB t = (decide (t.r = 0) && decide (t.names.length = 0) && decide (t.l.length = 0)) := by
  have e1 : ¬(t.kind = 20 ∨ t.kind = 21) := by omega
  have e2 : ¬(t.kind = 13 ∨ t.kind = 15) := by omega
  have e3 : ¬ t.kind = 16 := by omega
  have e4 : ¬ t.kind = 19 := by omega
  have e5 : ¬(t.kind = 12 ∨ t.kind = 17) := by omega
  have e6 : ¬ t.kind = 14 := by omega
  have e7 : ¬ t.kind = 18 := by omega
  unfold ownB
  rw [if_neg e1, if_neg e2, if_neg e3, if_neg e4, if_neg e5, if_neg e6, if_neg e7, Bool.eq_iff_iff]
  by_cases hr : t.r ≠ 0 ∨ t.l.length > 64
  · rw [if_pos hr]; simp [-List.length_eq_zero_iff]; omega
  · rw [if_neg hr]
    by_cases hn : t.names.length > 0
    · rw [if_pos hn]; simp; intro _ e; simp [e] at hn
    · rw [if_neg hn]; simp [-List.length_eq_zero_iff]; omega
mutual
def withinN : Ty → Int → Int
  | .mk k nn ns nl l r, d => if ownB (.mk k nn ns nl l r) = false ∨ d > 16 then 0 else withinGo k 1 l d
def withinGo (k : Int) : Int → List Ty → Int → Int
  | n, [], d => n
  | n, t :: ts, d => if (k = 15 ∨ k = 18) ∧ noneT t = true then withinGo k n ts d else if withinN t (d + 1) = 0 ∨ n + withinN t (d + 1) > 500 then 0 else withinGo k (n + withinN t (d + 1)) ts d
end
theorem withinN_eq (t : Ty) (d : Int) : withinN t d = if ownB t = false ∨ d > 16 then 0 else withinGo t.kind 1 t.l d := by cases t; rw [withinN]; rfl
theorem withinGo_step {k n d : Int} {l : List Ty} {i : Nat} (h : i < l.length) : withinGo k n (l.drop i) d = if (k = 15 ∨ k = 18) ∧ noneT l[i] = true then withinGo k n (l.drop (i + 1)) d else
    if withinN l[i] (d + 1) = 0 ∨ n + withinN l[i] (d + 1) > 500 then 0 else withinGo k (n + withinN l[i] (d + 1)) (l.drop (i + 1)) d := by
  rw [List.drop_eq_getElem_cons h, withinGo]
mutual
theorem withinN_le : ∀ (t : Ty) (d : Int), 0 ≤ withinN t d ∧ withinN t d ≤ 500
  | .mk k nn ns nl l r, d => by
    rw [withinN]
    split
    · omega
    · exact withinGo_le k 1 l d (by omega) (by omega)
theorem withinGo_le (k : Int) : ∀ (n : Int) (l : List Ty) (d : Int), 0 ≤ n → n ≤ 500 → 0 ≤ withinGo k n l d ∧ withinGo k n l d ≤ 500
  | n, [], d, h1, h2 => by rw [withinGo]; omega
  | n, t :: ts, d, h1, h2 => by
    have := withinN_le t (d + 1)
    rw [withinGo]
    split
    · exact withinGo_le k n ts d h1 h2
    · split
      · omega
      · exact withinGo_le k _ ts d (by omega) (by omega)
end
theorem within_p (HN : LexName) : ∀ (m : Nat) (t : Ty) (d : Int), SizeOf.sizeOf t ≤ m → small t → -1000 ≤ d → d ≤ 1000 → E.Pure Tryd.prog 43 [encTy t, tInt d] (.one (.t (tInt (withinN t d)))) := by
  intro m
  induction m with
  | zero => intro t n hm; cases t; simp at hm
  | succ m ih =>
    intro t d hm hs hn1 hn2
    have hdis := distinct_p HN t.names t.nn (small_names hs) (small_name hs)
    have hb1 := small_names hs
    have hb2 := small_l hs
    unfold big at hb1 hb2
    have hlen := encTys_length t.l
    have hlen2 : (t.names.map tStr).length = t.names.length := by simp
    refine Pure.of1 Tryd.func43 rfl rfl (Nat.le_of_ble_eq_true rfl) rfl ?_
    rw [encTy_eta]
    refine Tri.mid ⟨[(2, .ptr 0 0), (1, .t (tInt d))], Tryd.f43.ntmps, [(0, .obj [.t (.v (.int .i64 t.kind)), .t (.sl t.nn (t.names.map tStr)), .t (.sl t.nl (encTys t.l)), .t (.v (.int .i64 t.r))])], 0, 1⟩ ?_ ?_
    · repeat' (first | refine Tri.reg ?_ | refine TriL.nil ?_ | (apply U.assignT; rfl; trivial; rfl) | (apply U.boxA; rfl; rfl) | fail)
      exact Sub.of rfl rfl ⟨rfl, rfl, trivial⟩ ⟨rfl, trivial⟩
    refine Tri.mid ⟨[(5, .t (tBool (decide (t.names.length = 0) && decide (t.r = 0)))), (2, .ptr 0 0), (1, .t (tInt d))], Tryd.f43.ntmps, [(0, .obj [.t (.v (.int .i64 t.kind)), .t (.sl t.nn (t.names.map tStr)), .t (.sl t.nl (encTys t.l)), .t (.v (.int .i64 t.r))])], 0, 1⟩ ?_ ?_
    · repeat' (first | refine Tri.reg ?_ | refine TriL.nil ?_ | (apply U.moveT; rfl; trivial; rfl) | (apply U.assignT; rfl; trivial; rfl) | (apply U.load; rfl; rfl; trivial; rfl; rfl; rfl) | (apply U.fld; rfl; trivial; rfl; infer_instance; decide; rfl) | (apply U.bin; rfl; trivial; rfl; trivial; rfl; rfl) | (apply U.len; rfl; trivial; rfl) | (apply U.pickb; rfl; trivial; rfl; (first | trivial | exact id | exact And.right | exact gvA | exact gvB | exact And.left | exact gvN | exact gvP2 | exact gvN2 | exact gvLA); rfl; (first | trivial | exact id | exact And.right | exact gvA | exact gvB | exact And.left | exact gvN | exact gvP2 | exact gvN2 | exact gvLA); rfl) | (apply G.load; rfl; rfl; (first | trivial | exact id | exact And.right | exact gvA | exact gvB | exact And.left | exact gvN | exact gvP2 | exact gvN2 | exact gvLA); rfl; rfl; rfl; rfl; rfl) | (apply G.fld; rfl; (first | trivial | exact id | exact And.right | exact gvA | exact gvB | exact And.left | exact gvN | exact gvP2 | exact gvN2 | exact gvLA); rfl; infer_instance; decide; rfl; rfl; rfl) | (apply G.bin; rfl; (first | trivial | exact id | exact And.right | exact gvA | exact gvB | exact And.left | exact gvN | exact gvP2 | exact gvN2 | exact gvLA); rfl; (first | trivial | exact id | exact And.right | exact gvA | exact gvB | exact And.left | exact gvN | exact gvP2 | exact gvN2 | exact gvLA); rfl; rfl; rfl; rfl) | fail)
      refine Sub.of rfl rfl ⟨lkB ?_, rfl, rfl, trivial⟩ ⟨rfl, trivial⟩
      rw [Bool.eq_iff_iff]; simp
    refine Tri.mid ⟨[(6, .t (tBool false)), (5, .t (tBool (decide (t.names.length = 0) && decide (t.r = 0)))), (2, .ptr 0 0), (1, .t (tInt d))], Tryd.f43.ntmps, [(0, .obj [.t (.v (.int .i64 t.kind)), .t (.sl t.nn (t.names.map tStr)), .t (.sl t.nl (encTys t.l)), .t (.v (.int .i64 t.r))])], 0, 1⟩ ?_ ?_
    · repeat' (first | refine Tri.reg ?_ | refine TriL.nil ?_ | (apply U.assignT; rfl; trivial; rfl) | fail)
      exact Sub.of rfl rfl ⟨rfl, rfl, rfl, rfl, trivial⟩ ⟨rfl, trivial⟩
    refine Tri.mid ⟨[(6, .t (tBool (ownB t))), (2, .ptr 0 0), (1, .t (tInt d))], Tryd.f43.ntmps, [(0, .obj [.t (.v (.int .i64 t.kind)), .t (.sl t.nn (t.names.map tStr)), .t (.sl t.nl (encTys t.l)), .t (.v (.int .i64 t.r))])], 0, 1⟩ ?_ ?_
    · refine Tri.mid ⟨[(21, .t (tInt t.kind)), (6, .t (tBool false)), (5, .t (tBool (decide (t.names.length = 0) && decide (t.r = 0)))), (2, .ptr 0 0), (1, .t (tInt d))], Tryd.f43.ntmps, [(0, .obj [.t (.v (.int .i64 t.kind)), .t (.sl t.nn (t.names.map tStr)), .t (.sl t.nl (encTys t.l)), .t (.v (.int .i64 t.r))])], 0, 1⟩ ?_ ?_
      · repeat' (first | refine Tri.reg ?_ | refine TriL.nil ?_ | (apply U.load; rfl; rfl; trivial; rfl; rfl; rfl) | (apply U.fld; rfl; trivial; rfl; infer_instance; decide; rfl) | fail)
        exact Sub.of rfl rfl ⟨rfl, rfl, rfl, rfl, rfl, trivial⟩ ⟨rfl, trivial⟩
      refine Tri.block ?_
      refine Tri.mid ⟨[(22, .t (tBool (decide (1 ≤ t.kind ∧ t.kind ≤ 11)))), (21, .t (tInt t.kind)), (6, .t (tBool false)), (5, .t (tBool (decide (t.names.length = 0) && decide (t.r = 0)))), (2, .ptr 0 0), (1, .t (tInt d))], Tryd.f43.ntmps, [(0, .obj [.t (.v (.int .i64 t.kind)), .t (.sl t.nn (t.names.map tStr)), .t (.sl t.nl (encTys t.l)), .t (.v (.int .i64 t.r))])], 0, 1⟩ ?_ ?_
      · repeat' (first | refine Tri.seq ?_ | refine Tri.reg ?_ | refine TriL.nil ?_ | (apply U.assignT; rfl; trivial; rfl) | (apply U.bin; rfl; trivial; rfl; trivial; rfl; rfl) | refine Tri.skip ?_ | (refine Tri.cond rfl (fun h => ?_) (fun h => ?_) <;> (try simp at h) <;> (try contradiction)) | fail)
        all_goals (refine Sub.of rfl rfl ⟨lkB ?_, rfl, rfl, rfl, rfl, rfl, trivial⟩ ⟨rfl, trivial⟩; rw [Bool.eq_iff_iff]; simp; omega)
      repeat' (first | refine Tri.seq ?_ | refine Tri.reg ?_ | refine TriL.nil ?_ | (apply U.moveT; rfl; trivial; rfl) | (apply U.assignT; rfl; trivial; rfl) | (apply U.load; rfl; rfl; trivial; rfl; rfl; rfl) | (apply U.fld; rfl; trivial; rfl; infer_instance; decide; rfl) | (apply U.add; rfl; trivial; rfl; trivial; exact fun _ => wrap_i64 (by omega) (by omega); rfl) | (apply U.bin; rfl; trivial; rfl; trivial; rfl; rfl) | (apply U.len; rfl; trivial; rfl) | (apply U.pickb; rfl; trivial; rfl; (first | trivial | exact id | exact And.right | exact gvA | exact gvB | exact And.left | exact gvN | exact gvP2 | exact gvN2 | exact gvLA); rfl; (first | trivial | exact id | exact And.right | exact gvA | exact gvB | exact And.left | exact gvN | exact gvP2 | exact gvN2 | exact gvLA); rfl) | (apply G.load; rfl; rfl; (first | trivial | exact id | exact And.right | exact gvA | exact gvB | exact And.left | exact gvN | exact gvP2 | exact gvN2 | exact gvLA); rfl; rfl; rfl; rfl; rfl) | (apply G.fld; rfl; (first | trivial | exact id | exact And.right | exact gvA | exact gvB | exact And.left | exact gvN | exact gvP2 | exact gvN2 | exact gvLA); rfl; infer_instance; decide; rfl; rfl; rfl) | (apply G.bin; rfl; (first | trivial | exact id | exact And.right | exact gvA | exact gvB | exact And.left | exact gvN | exact gvP2 | exact gvN2 | exact gvLA); rfl; (first | trivial | exact id | exact And.right | exact gvA | exact gvB | exact And.left | exact gvN | exact gvP2 | exact gvN2 | exact gvLA); rfl; rfl; rfl; rfl) | (apply G.len; rfl; (first | trivial | exact id | exact And.right | exact gvA | exact gvB | exact And.left | exact gvN | exact gvP2 | exact gvN2 | exact gvLA); rfl; rfl; rfl) | refine G.call1 rfl rfl (by (first | trivial | exact id | exact And.right | exact gvA | exact gvB | exact And.left | exact gvN | exact gvP2 | exact gvN2 | exact gvLA)) (by first | assumption | exact fun _ => by assumption) rfl rfl rfl ?_ | refine Tri.skip ?_ | (refine Tri.cond rfl (fun h => ?_) (fun h => ?_) <;> (try simp at h) <;> (try contradiction)) | fail)
      · refine Sub.of rfl rfl ⟨lkB ?_, rfl, rfl, trivial⟩ ⟨rfl, trivial⟩
        rw [ownB_low h.1 h.2, Bool.eq_iff_iff]; simp [encTys_length, -List.length_eq_zero_iff]; omega
      all_goals (refine Sub.of rfl rfl ⟨lkB ?_, rfl, rfl, trivial⟩ ⟨rfl, trivial⟩; clear hdis ih; simp only [encTys_length, List.length_map] at *; rw [Bool.eq_iff_iff]; simp [ownB, -List.length_eq_zero_iff, *] <;> (try omega))
      all_goals (simp only [namesB_iff]; by_cases hg : namesGo [] t.names = true <;> simp only [hg, Bool.false_eq_true, true_and, false_and, and_false] <;> (try omega))
    clear hdis
    repeat' (first | refine Tri.seq ?_ | refine Tri.reg ?_ | refine TriL.nil ?_ | (apply U.moveT; rfl; trivial; rfl) | (apply U.assignT; rfl; trivial; rfl) | (apply U.load; rfl; rfl; trivial; rfl; rfl; rfl) | (apply U.fld; rfl; trivial; rfl; infer_instance; decide; rfl) | (apply U.len; rfl; trivial; rfl) | (apply U.not; rfl; trivial; rfl) | (apply U.pickb; rfl; trivial; rfl; (first | trivial | exact id | exact And.right | exact gvA | exact gvB | exact And.left | exact gvN | exact gvP2 | exact gvN2 | exact gvLA); rfl; (first | trivial | exact id | exact And.right | exact gvA | exact gvB | exact And.left | exact gvN | exact gvP2 | exact gvN2 | exact gvLA); rfl) | (apply G.moveT; rfl; (first | trivial | exact id | exact And.right | exact gvA | exact gvB | exact And.left | exact gvN | exact gvP2 | exact gvN2 | exact gvLA); rfl; rfl; rfl) | (apply G.bin; rfl; (first | trivial | exact id | exact And.right | exact gvA | exact gvB | exact And.left | exact gvN | exact gvP2 | exact gvN2 | exact gvLA); rfl; (first | trivial | exact id | exact And.right | exact gvA | exact gvB | exact And.left | exact gvN | exact gvP2 | exact gvN2 | exact gvLA); rfl; rfl; rfl; rfl) | refine Tri.skip ?_ | refine Tri.block ?_ | refine Tri.ret ?_ | (refine Tri.cond rfl (fun h => ?_) (fun h => ?_) <;> (try simp at h) <;> (try contradiction)) | fail)
    · refine Comes1.ret rfl ?_
      rw [withinN_eq, if_pos (by rcases h with h | h; exact .inl h; exact .inr h)]; rfl
    · refine Tri.loopS (α := Nat × Int) (fun a => ⟨[(163, .t (tInt a.1)), (162, .t (tInt t.l.length)), (161, .t (.sl t.nl (encTys t.l))), (7, .t (tInt a.2)), (2, .ptr 0 0), (1, .t (tInt d))], Tryd.f43.ntmps, [(0, .obj [.t (.v (.int .i64 t.kind)), .t (.sl t.nn (t.names.map tStr)), .t (.sl t.nl (encTys t.l)), .t (.v (.int .i64 t.r))])], 0, 1⟩)
        (fun a => a.1 ≤ t.l.length ∧ withinN t d = withinGo t.kind a.2 (t.l.drop a.1) d ∧ 1 ≤ a.2 ∧ a.2 ≤ 500) (fun a => t.l.length - a.1) (0, 1) ?_ ?_ ?_
      · refine ⟨Nat.zero_le _, ?_, by simp, by simp⟩
        rw [withinN_eq, if_neg (by rintro (e | e); rw [h.1] at e; cases e; omega)]; rfl
      · refine Sub.of rfl rfl ⟨rfl, ?_, rfl, rfl, rfl, rfl, trivial⟩ ⟨rfl, trivial⟩
        rw [← hlen]; rfl
      · rintro ⟨i, n⟩ ⟨hi, hp, hn3, hn4⟩
        dsimp only at hi hp hn3 hn4 ⊢
        repeat' (first | refine Tri.seq ?_ | refine Tri.reg ?_ | refine TriL.nil ?_ | (apply U.moveT; rfl; trivial; rfl) | (apply U.assignT; rfl; trivial; rfl) | (apply U.bin; rfl; trivial; rfl; trivial; rfl; rfl) | refine Tri.skip ?_ | refine Tri.block ?_ | refine Tri.exit ?_ | refine Tri.ret ?_ | (refine Tri.cond rfl (fun h => ?_) (fun h => ?_) <;> (try simp at h) <;> (try contradiction)) | fail)
        · have hlt : i < t.l.length := by omega
          have hget := get_ty hlt
          have hstep := withinGo_step (k := t.kind) (n := n) (d := d) hlt
          have hw := withinN_le t.l[i] (d + 1)
          have hnone := noneC_p t.l[i] (smalls_get (small_ls hs) (List.getElem?_eq_getElem hlt))
          have hwith := ih t.l[i] (d + 1) (by have := size_get hlt t rfl; omega) (smalls_get (small_ls hs) (List.getElem?_eq_getElem hlt)) (by omega) (by omega)
          rw [encTy_eta] at hnone hwith
          repeat' (first | refine Tri.seq ?_ | refine Tri.reg ?_ | refine TriL.nil ?_ | (apply U.moveT; rfl; trivial; rfl) | (apply U.assignT; rfl; trivial; rfl) | (apply U.load; rfl; rfl; trivial; rfl; rfl; rfl) | (apply U.fld; rfl; trivial; rfl; infer_instance; decide; rfl) | (apply U.add; rfl; trivial; rfl; trivial; exact fun _ => wrap_i64 (by omega) (by omega); rfl) | (apply U.bin; rfl; trivial; rfl; trivial; rfl; rfl) | (apply U.loadES; rfl; rfl; trivial; rfl; rfl; rfl) | (apply U.loadS; rfl; rfl; trivial; rfl; rfl; rfl; rfl; rfl) | (apply U.pickb; rfl; trivial; rfl; (first | trivial | exact id | exact And.right | exact gvA | exact gvB | exact And.left | exact gvN | exact gvP2 | exact gvN2 | exact gvLA); rfl; (first | trivial | exact id | exact And.right | exact gvA | exact gvB | exact And.left | exact gvN | exact gvP2 | exact gvN2 | exact gvLA); rfl) | (apply U.idx; rfl; trivial; rfl; trivial; exact fun _ => (by omega); exact fun _ => (by assumption); exact fun _ => rfl; rfl) | (apply U.alloc; rfl; rfl; rfl; rfl) | (apply U.storeS; rfl; rfl; rfl; rfl; rfl; rfl; rfl; rfl) | (apply G.moveT; rfl; (first | trivial | exact id | exact And.right | exact gvA | exact gvB | exact And.left | exact gvN | exact gvP2 | exact gvN2 | exact gvLA); rfl; rfl; rfl) | (apply G.load; rfl; rfl; (first | trivial | exact id | exact And.right | exact gvA | exact gvB | exact And.left | exact gvN | exact gvP2 | exact gvN2 | exact gvLA); rfl; rfl; rfl; rfl; rfl) | (apply G.fld; rfl; (first | trivial | exact id | exact And.right | exact gvA | exact gvB | exact And.left | exact gvN | exact gvP2 | exact gvN2 | exact gvLA); rfl; infer_instance; decide; rfl; rfl; rfl) | (apply G.bin; rfl; (first | trivial | exact id | exact And.right | exact gvA | exact gvB | exact And.left | exact gvN | exact gvP2 | exact gvN2 | exact gvLA); rfl; (first | trivial | exact id | exact And.right | exact gvA | exact gvB | exact And.left | exact gvN | exact gvP2 | exact gvN2 | exact gvLA); rfl; rfl; rfl; rfl) | (apply G.loadS; rfl; rfl; (first | trivial | exact id | exact And.right | exact gvA | exact gvB | exact And.left | exact gvN | exact gvP2 | exact gvN2 | exact gvLA); rfl; rfl; rfl; rfl; rfl; rfl; rfl) | refine U.call2 rfl rfl rfl (by assumption) rfl ?_ | refine G.call1 rfl rfl (by (first | trivial | exact id | exact And.right | exact gvA | exact gvB | exact And.left | exact gvN | exact gvP2 | exact gvN2 | exact gvLA)) (by first | assumption | exact fun _ => by assumption) rfl rfl rfl ?_ | refine Tri.skip ?_ | refine Tri.exit ?_ | refine Tri.ret ?_ | (refine Tri.cond rfl (fun h => ?_) (fun h => ?_) <;> (try simp at h) <;> (try contradiction)) | fail)
          · refine ⟨(i + 1, n), ⟨by dsimp only; omega, ?_, hn3, hn4⟩, by dsimp only; omega, Sub.ofn (by decide) rfl ⟨rfl, rfl, rfl, rfl, rfl, rfl, trivial⟩ ⟨rfl, trivial⟩ rfl rfl⟩
            rw [hp, hstep, if_pos h]
          · refine Comes1.ret rfl ?_
            rw [hp, hstep, if_neg (by rintro ⟨e1, e2⟩; have := ‹t.kind = 15 ∨ t.kind = 18 → noneT t.l[i] = false› e1; rw [this] at e2; cases e2), if_pos (by omega)]; rfl
          · refine ⟨(i + 1, n + withinN t.l[i] (d + 1)), ⟨by dsimp only; omega, ?_, by dsimp only; omega, by dsimp only; omega⟩, by dsimp only; omega, Sub.ofn (by decide) rfl ⟨rfl, rfl, rfl, rfl, rfl, rfl, trivial⟩ ⟨rfl, trivial⟩ rfl rfl⟩
            rw [hp, hstep, if_neg (by rintro ⟨e1, e2⟩; have := ‹t.kind = 15 ∨ t.kind = 18 → noneT t.l[i] = false› e1; rw [this] at e2; cases e2), if_neg (by omega)]
        · refine Comes1.ret rfl ?_
          have : i = t.l.length := by omega
          subst this
          rw [hp, List.drop_length, withinGo]
end Go.Proofs.YtaplmmhkpljmkaaDoor
