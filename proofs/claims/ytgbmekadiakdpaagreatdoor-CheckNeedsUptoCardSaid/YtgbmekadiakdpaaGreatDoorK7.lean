/- Which types need a memory: the code's NeedsMem, the reference's. -/
import Derived.Test.YtgbmekadiakdpaaGreatDoorK4
namespace Go.Proofs.YtgbmekadiakdpaaGreatDoor
open Go E
set_option maxRecDepth 100000
set_option maxHeartbeats 4000000
set_option linter.unusedVariables false
set_option linter.unusedSimpArgs false
attribute [local irreducible] Tri TriL TriO PO VO E.Pure DOb
mutual
/-- Does a type need a memory? -/
def memB : Ty → Bool
  | .mk k _ _ _ l _ => decide (k = 11) || decide (k = 12) || memsB l
def memsB : List Ty → Bool
  | [] => false
  | t :: ts => memB t || memsB ts
end
theorem memB_eq (t : Ty) : memB t = (decide (t.kind = 11) || decide (t.kind = 12) || memsB t.l) := by cases t; rfl
theorem memsB_step (l : List Ty) (i : Nat) (h : i < l.length) : memsB (l.drop i) = (memB l[i] || memsB (l.drop (i + 1))) := by
  rw [List.drop_eq_getElem_cons h, memsB]
/-- Where the first one is. -/
def idxM : Int → List Ty → Int
  | _, [] => -1
  | i, x :: xs => if memB x = true then i else idxM (i + 1) xs
theorem idxM_step {l : List Ty} {i : Nat} {k : Int} (h : i < l.length) : idxM k (l.drop i) = if memB l[i] = true then k else idxM (k + 1) (l.drop (i + 1)) := by
  rw [List.drop_eq_getElem_cons h, idxM]
theorem idxM_pos : ∀ (l : List Ty) (k : Int), 0 ≤ k → (decide (idxM k l ≥ 0) = memsB l)
  | [], k, _ => rfl
  | x :: xs, k, hk => by
    rw [idxM, memsB]
    split
    · rename_i e; rw [e]; simpa using hk
    · rename_i e; rw [idxM_pos xs (k + 1) (by omega)]; simp [e]
abbrev fnM : T := .v (.func (.func 13) #[] #[])
theorem indexM_p (l : List Ty) (nn : Bool) (hb : l.length ≤ big) (hel : ∀ (i : Nat) (h : i < l.length), E.Pure Tryz.prog 13 [agTy l[i]] (.one (.t (tBool (memB l[i]))))) :
    E.Pure Tryz.prog 43 [.sl nn (encTys l), fnM] (.one (.t (tInt (idxM 0 l)))) := by
  unfold big at hb
  have hlen : (encTys l).length = l.length := encTys_length l
  refine Pure.of1 Tryz.func43 rfl rfl (Nat.le_of_ble_eq_true rfl) rfl ?_
  repeat' (first | refine Tri.seq ?_ | refine Tri.reg ?_ | refine TriL.nil ?_ | (apply U.moveT; rfl; trivial; rfl) | (apply U.assignT; rfl; trivial; rfl) | (apply U.len; rfl; trivial; rfl) | refine Tri.block ?_ | fail)
  refine Tri.loopS (α := Nat) (fun i => ⟨[(8, .t (tInt i)), (7, .t (tInt l.length)), (1, .t fnM), (0, .t (.sl nn (encTys l)))], Tryz.f43.ntmps, [], 0, 0⟩)
    (fun i => i ≤ l.length ∧ idxM 0 l = idxM i (l.drop i)) (fun i => l.length - i) 0 ?_ ?_ ?_
  · exact ⟨Nat.zero_le _, rfl⟩
  · refine Sub.of rfl rfl ⟨rfl, ?_, rfl, rfl, trivial⟩ trivial
    rw [← hlen]; rfl
  · rintro i ⟨hi, hn⟩
    repeat' (first | refine Tri.seq ?_ | refine Tri.reg ?_ | refine TriL.nil ?_ | (apply U.moveT; rfl; trivial; rfl) | (apply U.assignT; rfl; trivial; rfl) | (apply U.bin; rfl; trivial; rfl; trivial; rfl; rfl) | refine Tri.skip ?_ | refine Tri.block ?_ | refine Tri.exit ?_ | refine Tri.ret ?_ | (refine Tri.cond rfl (fun h => ?_) (fun h => ?_) <;> (try simp at h) <;> (try contradiction)) | fail)
    · have hlt : i < l.length := by omega
      have hget := get_ty hlt
      have hstep := idxM_step (k := i) hlt
      have h1 := hel i hlt
      repeat' (first | refine Tri.seq ?_ | refine Tri.reg ?_ | refine TriL.nil ?_ | (apply U.moveT; rfl; trivial; rfl) | (apply U.assignT; rfl; trivial; rfl) | (apply U.add; rfl; trivial; rfl; trivial; exact fun _ => wrap_i64 (by omega) (by omega); rfl) | (apply U.loadES; rfl; rfl; trivial; rfl; rfl; rfl) | (apply U.idx; rfl; trivial; rfl; trivial; exact fun _ => (by omega); exact fun _ => (by assumption); exact fun _ => rfl; rfl) | refine U.call1 rfl rfl (by assumption) rfl ?_ | refine Tri.skip ?_ | refine Tri.ret ?_ | (refine Tri.cond rfl (fun h => ?_) (fun h => ?_) <;> (try simp at h) <;> (try contradiction)) | fail)
      · refine Comes1.ret rfl ?_
        rw [hn, hstep, if_pos (by assumption)]
      · refine ⟨i + 1, ⟨by omega, ?_⟩, by omega, Sub.of rfl rfl ⟨rfl, rfl, rfl, rfl, trivial⟩ trivial⟩
        rw [hn, hstep, if_neg (by simp [h])]; rfl
    · refine Comes1.ret rfl ?_
      have : i = l.length := by omega
      subst this
      rw [hn, List.drop_length, idxM]; rfl
theorem containsM_p (l : List Ty) (nn : Bool) (hb : l.length ≤ big) (hel : ∀ (i : Nat) (h : i < l.length), E.Pure Tryz.prog 13 [agTy l[i]] (.one (.t (tBool (memB l[i]))))) :
    E.Pure Tryz.prog 22 [.sl nn (encTys l), fnM] (.one (.t (tBool (memsB l)))) := by
  have h1 := indexM_p l nn hb hel
  refine Pure.of1 Tryz.func22 rfl rfl (Nat.le_of_ble_eq_true rfl) rfl ?_
  repeat' (first | refine Tri.seq ?_ | refine Tri.reg ?_ | refine TriL.nil ?_ | (apply U.moveT; rfl; trivial; rfl) | (apply U.assignT; rfl; trivial; rfl) | (apply U.bin; rfl; trivial; rfl; trivial; rfl; rfl) | refine U.call2 rfl rfl rfl (by assumption) rfl ?_ | refine Tri.ret ?_ | fail)
  exact Comes1.ret rfl (retB (idxM_pos l 0 (by omega)))
theorem needsMem_p : ∀ (m : Nat) (t : Ty), SizeOf.sizeOf t ≤ m → small t → E.Pure Tryz.prog 13 [encTy t] (.one (.t (tBool (memB t)))) := by
  intro m
  induction m with
  | zero => intro t hm; cases t; simp at hm
  | succ m ih =>
    intro t hm hs
    have hc := containsM_p t.l t.nl (small_l hs) fun i hlt => by
      have := ih t.l[i] (by have := size_get hlt t rfl; omega) (smalls_get (small_ls hs) (List.getElem?_eq_getElem hlt))
      rwa [encTy_eta] at this
    refine Pure.of1 Tryz.func13 rfl rfl (Nat.le_of_ble_eq_true rfl) rfl ?_
    rw [encTy_eta]
    repeat' (first | refine Tri.seq ?_ | refine Tri.reg ?_ | refine TriL.nil ?_ | (apply U.moveT; rfl; trivial; rfl) | (apply U.assignT; rfl; trivial; rfl) | (apply U.load; rfl; rfl; trivial; rfl; rfl; rfl) | (apply U.fld; rfl; trivial; rfl; infer_instance; decide; rfl) | (apply U.bin; rfl; trivial; rfl; trivial; rfl; rfl) | (apply U.pickb; rfl; trivial; rfl; (first | trivial | exact id | exact And.right | exact gvA | exact gvB | exact And.left | exact gvN | exact gvP2 | exact gvN2 | exact gvLA); rfl; (first | trivial | exact id | exact And.right | exact gvA | exact gvB | exact And.left | exact gvN | exact gvP2 | exact gvN2 | exact gvLA); rfl) | (apply U.boxA; rfl; rfl) | (apply G.load; rfl; rfl; (first | trivial | exact id | exact And.right | exact gvA | exact gvB | exact And.left | exact gvN | exact gvP2 | exact gvN2 | exact gvLA); rfl; rfl; rfl; rfl; rfl) | (apply G.fld; rfl; (first | trivial | exact id | exact And.right | exact gvA | exact gvB | exact And.left | exact gvN | exact gvP2 | exact gvN2 | exact gvLA); rfl; infer_instance; decide; rfl; rfl; rfl) | (apply G.bin; rfl; (first | trivial | exact id | exact And.right | exact gvA | exact gvB | exact And.left | exact gvN | exact gvP2 | exact gvN2 | exact gvLA); rfl; (first | trivial | exact id | exact And.right | exact gvA | exact gvB | exact And.left | exact gvN | exact gvP2 | exact gvN2 | exact gvLA); rfl; rfl; rfl; rfl) | refine G.call2 rfl rfl (by (first | trivial | exact id | exact And.right | exact gvA | exact gvB | exact And.left | exact gvN | exact gvP2 | exact gvN2 | exact gvLA)) rfl (by (first | trivial | exact id | exact And.right | exact gvA | exact gvB | exact And.left | exact gvN | exact gvP2 | exact gvN2 | exact gvLA)) (by first | assumption | exact fun _ => by assumption) rfl rfl rfl ?_ | refine Tri.ret ?_ | fail)
    refine Comes1.ret rfl (retB ?_)
    rw [memB_eq]
    by_cases h1 : t.kind = 11
    · simp [h1]
    · by_cases h2 : t.kind = 12
      · simp [h2]
      · simp [h1, h2]
theorem needsMemR_p : ∀ (m : Nat) (t : Ty), SizeOf.sizeOf t ≤ m → small t → E.Pure Tryz.prog 15 [encTy t] (.one (.t (tBool (memB t)))) := by
  intro m
  induction m with
  | zero => intro t hm; cases t; simp at hm
  | succ m ih =>
    intro t hm hs
    have hb2 := small_l hs
    unfold big at hb2
    have hlen := encTys_length t.l
    refine Pure.of1 Tryz.func15 rfl rfl (Nat.le_of_ble_eq_true rfl) rfl ?_
    rw [encTy_eta]
    repeat' (first | refine Tri.seq ?_ | refine Tri.reg ?_ | refine TriL.nil ?_ | (apply U.assignT; rfl; trivial; rfl) | (apply U.boxA; rfl; rfl) | refine Tri.block ?_ | fail)
    refine Tri.loopS (α := Nat) (fun i => ⟨[(3, .t (tInt i)), (1, .ptr 0 0)], Tryz.f15.ntmps, [(0, .obj [.t (.v (.int .i64 t.kind)), .t (.sl t.nn (t.names.map tStr)), .t (.sl t.nl (encTys t.l)), .t (.v (.int .i64 t.r))])], 0, 1⟩)
      (fun i => i ≤ t.l.length ∧ memsB t.l = memsB (t.l.drop i)) (fun i => t.l.length - i) 0 ?_ ?_ ?_
    · exact ⟨Nat.zero_le _, rfl⟩
    · exact Sub.of rfl rfl ⟨rfl, rfl, trivial⟩ ⟨rfl, trivial⟩
    · rintro i ⟨hi, hd⟩
      repeat' (first | refine Tri.seq ?_ | refine Tri.reg ?_ | refine TriL.nil ?_ | (apply U.moveT; rfl; trivial; rfl) | (apply U.assignT; rfl; trivial; rfl) | (apply U.load; rfl; rfl; trivial; rfl; rfl; rfl) | (apply U.fld; rfl; trivial; rfl; infer_instance; decide; rfl) | (apply U.bin; rfl; trivial; rfl; trivial; rfl; rfl) | (apply U.len; rfl; trivial; rfl) | (apply U.pickb; rfl; trivial; rfl; (first | trivial | exact id | exact And.right | exact gvA | exact gvB | exact And.left | exact gvN | exact gvP2 | exact gvN2 | exact gvLA); rfl; (first | trivial | exact id | exact And.right | exact gvA | exact gvB | exact And.left | exact gvN | exact gvP2 | exact gvN2 | exact gvLA); rfl) | (apply G.load; rfl; rfl; (first | trivial | exact id | exact And.right | exact gvA | exact gvB | exact And.left | exact gvN | exact gvP2 | exact gvN2 | exact gvLA); rfl; rfl; rfl; rfl; rfl) | (apply G.fld; rfl; (first | trivial | exact id | exact And.right | exact gvA | exact gvB | exact And.left | exact gvN | exact gvP2 | exact gvN2 | exact gvLA); rfl; infer_instance; decide; rfl; rfl; rfl) | (apply G.bin; rfl; (first | trivial | exact id | exact And.right | exact gvA | exact gvB | exact And.left | exact gvN | exact gvP2 | exact gvN2 | exact gvLA); rfl; (first | trivial | exact id | exact And.right | exact gvA | exact gvB | exact And.left | exact gvN | exact gvP2 | exact gvN2 | exact gvLA); rfl; rfl; rfl; rfl) | refine Tri.skip ?_ | refine Tri.block ?_ | refine Tri.exit ?_ | refine Tri.ret ?_ | (refine Tri.cond rfl (fun h => ?_) (fun h => ?_) <;> (try simp at h) <;> (try contradiction)) | fail)
      · have hlt : i < t.l.length := by omega
        have hget := get_ty hlt
        have hstep := memsB_step t.l i hlt
        have hel := ih t.l[i] (by have := size_get hlt t rfl; omega) (smalls_get (small_ls hs) (List.getElem?_eq_getElem hlt))
        rw [encTy_eta] at hel
        repeat' (first | refine Tri.seq ?_ | refine Tri.reg ?_ | refine TriL.nil ?_ | (apply U.moveT; rfl; trivial; rfl) | (apply U.assignT; rfl; trivial; rfl) | (apply U.add; rfl; trivial; rfl; trivial; exact fun _ => wrap_i64 (by omega) (by omega); rfl) | (apply U.loadES; rfl; rfl; trivial; rfl; rfl; rfl) | (apply U.idx; rfl; trivial; rfl; trivial; exact fun _ => (by omega); exact fun _ => (by assumption); exact fun _ => rfl; rfl) | refine U.call1 rfl rfl (by assumption) rfl ?_ | refine Tri.skip ?_ | refine Tri.ret ?_ | (refine Tri.cond rfl (fun h => ?_) (fun h => ?_) <;> (try simp at h) <;> (try contradiction)) | fail)
        · refine Comes1.ret rfl (retB ?_)
          rw [memB_eq, hd, hstep]; simp [h]
        · refine ⟨i + 1, ⟨by omega, ?_⟩, by omega, Sub.of rfl rfl ⟨rfl, rfl, trivial⟩ ⟨rfl, trivial⟩⟩
          rw [hd, hstep]; simp [h]
      · refine Comes1.ret rfl (retB ?_)
        have : i = t.l.length := by omega
        subst this
        rw [List.drop_length] at hd
        rw [memB_eq, hd]
        by_cases h1 : t.kind = 11
        · simp [h1]
        · simp [h1, memsB]
end Go.Proofs.YtgbmekadiakdpaaGreatDoor
