/- Layer 13: parts, May. -/
import Derived.Test.YtaplmmhkpljmkaaDoorC4
namespace Go.Proofs.YtaplmmhkpljmkaaDoor
open Go E
set_option maxRecDepth 100000
set_option maxHeartbeats 4000000
set_option linter.unusedVariables false
set_option linter.unusedSimpArgs false
attribute [local irreducible] Tri TriL TriO PO VO E.Pure DOb
mutual
def partsN : Ty → Int
  | .mk _ _ _ _ l _ => partsGo 1 l
def partsGo : Int → List Ty → Int
  | n, [] => n
  | n, t :: ts => if n ≤ 500 then partsGo (if t.kind ≠ 0 then n + partsN t else n) ts else n
end
mutual
def dep : Ty → Int
  | .mk _ _ _ _ l _ => 1 + deps l
def deps : List Ty → Int
  | [] => 0
  | t :: ts => max (dep t) (deps ts)
end
mutual
theorem dep_pos : ∀ t : Ty, 1 ≤ dep t
  | .mk _ _ _ _ l _ => by have := deps_pos l; simp only [dep]; omega
theorem deps_pos : ∀ l : List Ty, 0 ≤ deps l
  | [] => by simp [deps]
  | t :: ts => by have := dep_pos t; have := deps_pos ts; simp only [deps]; omega
end
mutual
theorem partsN_le : ∀ t : Ty, 1 ≤ partsN t ∧ partsN t ≤ 500 * dep t + 1
  | .mk _ _ _ _ l _ => by have := partsGo_le 1 l; have := deps_pos l; simp only [partsN, dep]; omega
theorem partsGo_le : ∀ (n : Int) (l : List Ty), n ≤ partsGo n l ∧ partsGo n l ≤ max n (501 + 500 * deps l)
  | n, [] => by simp only [partsGo]; omega
  | n, t :: ts => by
    have h1 := partsN_le t
    have h2 := dep_pos t
    have h3 := deps_pos ts
    simp only [partsGo, deps]
    split
    · split
      · have := partsGo_le (n + partsN t) ts; omega
      · have := partsGo_le n ts; omega
    · omega
end
theorem partsN_eq (t : Ty) : partsN t = partsGo 1 t.l := by cases t; rfl
theorem dep_eq (t : Ty) : dep t = 1 + deps t.l := by cases t; rfl
theorem deps_get : ∀ {l : List Ty} {i : Nat} (h : i < l.length), dep l[i] ≤ deps l
  | t :: ts, 0, h => by simp only [deps, List.getElem_cons_zero]; omega
  | t :: ts, i + 1, h => by have := deps_get (l := ts) (i := i) (by simpa using h); simp only [deps, List.getElem_cons_succ]; omega
theorem partsGo_step {n : Int} {l : List Ty} {i : Nat} (h : i < l.length) (hn : n ≤ 500) : partsGo n (l.drop i) = partsGo (if l[i].kind ≠ 0 then n + partsN l[i] else n) (l.drop (i + 1)) := by
  rw [List.drop_eq_getElem_cons h, partsGo, if_pos hn]
theorem partsGo_far {n : Int} {l : List Ty} (hn : ¬ n ≤ 500) : partsGo n l = n := by
  cases l with
  | nil => rfl
  | cons t ts => rw [partsGo, if_neg hn]
theorem parts_p : ∀ (m : Nat) (t : Ty), SizeOf.sizeOf t ≤ m → small t → dep t ≤ 1000 → E.Pure Tryd.prog 31 [encTy t] (.one (.t (tInt (partsN t)))) := by
  intro m
  induction m with
  | zero => intro t hm; cases t; simp at hm
  | succ m ih =>
    intro t hm hs hd
    have hb2 := small_l hs
    unfold big at hb2
    have hlen := encTys_length t.l
    refine Pure.of1 Tryd.func31 rfl rfl (Nat.le_of_ble_eq_true rfl) rfl ?_
    rw [encTy_eta]
    repeat' (first | refine Tri.seq ?_ | refine Tri.reg ?_ | refine TriL.nil ?_ | (apply U.assignT; rfl; trivial; rfl) | (apply U.boxA; rfl; rfl) | refine Tri.block ?_ | fail)
    refine Tri.loopS (α := Nat × Int) (fun a => ⟨[(4, .t (tInt a.1)), (3, .t (tInt a.2)), (2, .t (tInt 0)), (1, .ptr 0 0)], Tryd.f31.ntmps, [(0, .obj [.t (.v (.int .i64 t.kind)), .t (.sl t.nn (t.names.map tStr)), .t (.sl t.nl (encTys t.l)), .t (.v (.int .i64 t.r))])], 0, 1⟩)
        (fun a => a.1 ≤ t.l.length ∧ partsN t = partsGo a.2 (t.l.drop a.1) ∧ 1 ≤ a.2 ∧ a.2 ≤ 1000000) (fun a => t.l.length - a.1) (0, 1) ?_ ?_ ?_
    · exact ⟨Nat.zero_le _, partsN_eq t, by simp, by simp⟩
    · exact Sub.of rfl rfl ⟨rfl, rfl, rfl, rfl, trivial⟩ ⟨rfl, trivial⟩
    · rintro ⟨i, n⟩ ⟨hi, hp, hn1, hn2⟩
      dsimp only at hi hp hn1 hn2 ⊢
      repeat' (first | refine Tri.seq ?_ | refine Tri.reg ?_ | refine TriL.nil ?_ | (apply U.moveT; rfl; trivial; rfl) | (apply U.assignT; rfl; trivial; rfl) | (apply U.load; rfl; rfl; trivial; rfl; rfl; rfl) | (apply U.fld; rfl; trivial; rfl; infer_instance; decide; rfl) | (apply U.bin; rfl; trivial; rfl; trivial; rfl; rfl) | (apply U.len; rfl; trivial; rfl) | (apply U.pickb; rfl; trivial; rfl; (first | trivial | exact id | exact And.right | exact gvA | exact gvB | exact And.left | exact gvN | exact gvP2 | exact gvN2 | exact gvLA); rfl; (first | trivial | exact id | exact And.right | exact gvA | exact gvB | exact And.left | exact gvN | exact gvP2 | exact gvN2 | exact gvLA); rfl) | (apply G.moveT; rfl; (first | trivial | exact id | exact And.right | exact gvA | exact gvB | exact And.left | exact gvN | exact gvP2 | exact gvN2 | exact gvLA); rfl; rfl; rfl) | (apply G.bin; rfl; (first | trivial | exact id | exact And.right | exact gvA | exact gvB | exact And.left | exact gvN | exact gvP2 | exact gvN2 | exact gvLA); rfl; (first | trivial | exact id | exact And.right | exact gvA | exact gvB | exact And.left | exact gvN | exact gvP2 | exact gvN2 | exact gvLA); rfl; rfl; rfl; rfl) | refine Tri.skip ?_ | refine Tri.block ?_ | refine Tri.exit ?_ | refine Tri.ret ?_ | (refine Tri.cond rfl (fun h => ?_) (fun h => ?_) <;> (try simp at h) <;> (try contradiction)) | fail)
      · have hlt : i < t.l.length := by omega
        have hget := get_ty hlt
        have hstep := partsGo_step hlt h.2
        have hdep := deps_get hlt
        have hdt := dep_eq t
        have hpb := partsN_le t.l[i]
        have hparts := ih t.l[i] (by have := size_get hlt t rfl; omega) (smalls_get (small_ls hs) (List.getElem?_eq_getElem hlt)) (by omega)
        rw [encTy_eta] at hparts
        have hpb2 : partsN t.l[i] ≤ 600000 := by omega
        repeat' (first | refine Tri.reg ?_ | refine TriL.nil ?_ | (apply U.moveT; rfl; trivial; rfl) | (apply U.assignT; rfl; trivial; rfl) | (apply U.load; rfl; rfl; trivial; rfl; rfl; rfl) | (apply U.fld; rfl; trivial; rfl; infer_instance; decide; rfl) | (apply U.add; rfl; trivial; rfl; trivial; exact fun _ => wrap_i64 (by omega) (by omega); rfl) | (apply U.bin; rfl; trivial; rfl; trivial; rfl; rfl) | (apply U.loadE; rfl; rfl; trivial; rfl; rfl) | (apply U.loadES; rfl; rfl; trivial; rfl; rfl; rfl) | (apply U.fldE; rfl; trivial; rfl; infer_instance; decide; rfl) | (apply U.idx; rfl; trivial; rfl; trivial; exact fun _ => (by omega); exact fun _ => (by assumption); exact fun _ => rfl; rfl) | refine U.call1 rfl rfl (by assumption) rfl ?_ | refine Tri.skip ?_ | (refine Tri.cond rfl (fun h => ?_) (fun h => ?_) <;> (try simp at h) <;> (try contradiction)) | fail)
        · refine ⟨(i + 1, n + partsN t.l[i]), ⟨by dsimp only; omega, ?_, by dsimp only; omega, by dsimp only; omega⟩, by dsimp only; omega, Sub.of rfl rfl ⟨rfl, rfl, rfl, rfl, trivial⟩ ⟨rfl, trivial⟩⟩
          rw [hp, hstep, if_pos h]
        · refine ⟨(i + 1, n), ⟨by dsimp only; omega, ?_, hn1, hn2⟩, by dsimp only; omega, Sub.of rfl rfl ⟨rfl, rfl, rfl, rfl, trivial⟩ ⟨rfl, trivial⟩⟩
          rw [hp, hstep, if_neg (by simpa using h)]
      · refine Comes1.ret rfl ?_
        by_cases hn : n ≤ 500
        · have : i = t.l.length := by omega
          subst this
          rw [hp, List.drop_length, partsGo]
        · rw [hp, partsGo_far hn]
theorem noneT_dep {t : Ty} (h : noneT t = true) : dep t = 1 := by
  have h1 : t.l = [] := by simp [noneT] at h; exact h.2
  rw [dep_eq, h1]; rfl
mutual
theorem deepB_dep : ∀ (t : Ty) (n : Int), deepB t n = true → dep t + n ≤ 17
  | .mk k nn ns nl l r, n, h => by
    simp only [deepB, Bool.and_eq_true, Bool.not_eq_true', decide_eq_false_iff_not] at h
    have := deepsB_dep k l n h.2 (by omega)
    simp only [dep]; omega
theorem deepsB_dep (k : Int) : ∀ (l : List Ty) (n : Int), deepsB k l n = true → n < 16 → deps l + n ≤ 16
  | [], n, _, hn => by simp only [deps]; omega
  | t :: ts, n, h, hn => by
    simp only [deepsB, Bool.and_eq_true, Bool.or_eq_true] at h
    have h1 := deepsB_dep k ts n h.2 hn
    simp only [deps]
    rcases h.1 with h2 | h2
    · have := noneT_dep h2.2; omega
    · have := deepB_dep t (n + 1) h2; omega
end
def mayB (t : Ty) : Bool := deepB t 0 && decide (partsN t ≤ 500)
theorem may_p (t : Ty) (hs : small t) : E.Pure Tryd.prog 8 [encTy t] (.one (.t (tBool (mayB t)))) := by
  have h1 := deep_p _ t 0 (Nat.le_refl _) hs (by omega) (by omega)
  have h2 : deepB t 0 = true → E.Pure Tryd.prog 31 [encTy t] (.one (.t (tInt (partsN t)))) := fun h => parts_p _ t (Nat.le_refl _) hs (by have := deepB_dep t 0 h; omega)
  refine Pure.of1 Tryd.func8 rfl rfl (Nat.le_of_ble_eq_true rfl) rfl ?_
  rw [encTy_eta] at *
  repeat' (first | refine Tri.seq ?_ | refine Tri.reg ?_ | refine TriL.nil ?_ | (apply U.moveT; rfl; trivial; rfl) | (apply U.assignT; rfl; trivial; rfl) | (apply U.loadS; rfl; rfl; trivial; rfl; rfl; rfl; rfl; rfl) | (apply U.pickb; rfl; trivial; rfl; (first | trivial | exact id | exact And.right | exact gvA | exact gvB | exact And.left | exact gvN | exact gvP2 | exact gvN2 | exact gvLA); rfl; (first | trivial | exact id | exact And.right | exact gvA | exact gvB | exact And.left | exact gvN | exact gvP2 | exact gvN2 | exact gvLA); rfl) | (apply U.boxA; rfl; rfl) | (apply G.bin; rfl; (first | trivial | exact id | exact And.right | exact gvA | exact gvB | exact And.left | exact gvN | exact gvP2 | exact gvN2 | exact gvLA); rfl; (first | trivial | exact id | exact And.right | exact gvA | exact gvB | exact And.left | exact gvN | exact gvP2 | exact gvN2 | exact gvLA); rfl; rfl; rfl; rfl) | (apply G.loadS; rfl; rfl; (first | trivial | exact id | exact And.right | exact gvA | exact gvB | exact And.left | exact gvN | exact gvP2 | exact gvN2 | exact gvLA); rfl; rfl; rfl; rfl; rfl; rfl; rfl) | refine U.call2 rfl rfl rfl (by assumption) rfl ?_ | refine G.call1 rfl rfl (by (first | trivial | exact id | exact And.right | exact gvA | exact gvB | exact And.left | exact gvN | exact gvP2 | exact gvN2 | exact gvLA)) (by first | assumption | exact fun _ => by assumption) rfl rfl rfl ?_ | refine Tri.ret ?_ | fail)
  all_goals (refine Comes1.ret rfl (retB ?_); rw [Bool.eq_iff_iff]; simp [mayB])
end Go.Proofs.YtaplmmhkpljmkaaDoor
