/- Layer 13: the reference's SameNames, SameTypes, SameType. -/
import Derived.Test.YtaplmmhkpljmkaaDoorC22
namespace Go.Proofs.YtaplmmhkpljmkaaDoor
open Go E
set_option maxRecDepth 100000
set_option maxHeartbeats 4000000
set_option linter.unusedVariables false
set_option linter.unusedSimpArgs false
attribute [local irreducible] Tri TriL TriO PO VO E.Pure DOb
theorem sameNames_p (a b : List ByteArray) (n1 n2 : Bool) (h1 : a.length ≤ big) (h2 : b.length ≤ big) : E.Pure Tryd.prog 36 [.sl n1 (a.map tStr), .sl n2 (b.map tStr)] (.one (.t (tBool (decide (a = b))))) := by
  unfold big at h1 h2
  have hla : (a.map tStr).length = a.length := by simp
  have hlb : (b.map tStr).length = b.length := by simp
  refine Pure.of1 Tryd.func36 rfl rfl (Nat.le_of_ble_eq_true rfl) rfl ?_
  repeat' (first | refine Tri.seq ?_ | refine Tri.reg ?_ | refine TriL.nil ?_ | (apply U.moveT; rfl; trivial; rfl) | (apply U.assignT; rfl; trivial; rfl) | (apply U.bin; rfl; trivial; rfl; trivial; rfl; rfl) | (apply U.len; rfl; trivial; rfl) | refine Tri.skip ?_ | refine Tri.block ?_ | refine Tri.ret ?_ | (refine Tri.cond rfl (fun h => ?_) (fun h => ?_) <;> (try simp at h) <;> (try contradiction)) | fail)
  · refine Comes1.ret rfl (retB ?_)
    have : a ≠ b := fun e => by subst e; simp at *
    simp [this]
  · have hab : a.length = b.length := by simp at *; omega
    refine Tri.loopS (α := Nat) (fun i => ⟨[(5, .t (tInt i)), (1, .t (.sl n2 (b.map tStr))), (0, .t (.sl n1 (a.map tStr)))], Tryd.f36.ntmps, [], 0, 0⟩)
      (fun i => i ≤ a.length ∧ a.take i = b.take i) (fun i => a.length - i) 0 ?_ ?_ ?_
    · exact ⟨Nat.zero_le _, rfl⟩
    · exact Sub.of rfl rfl ⟨rfl, rfl, rfl, trivial⟩ trivial
    · rintro i ⟨hi, ht⟩
      repeat' (first | refine Tri.seq ?_ | refine Tri.reg ?_ | refine TriL.nil ?_ | (apply U.moveT; rfl; trivial; rfl) | (apply U.assignT; rfl; trivial; rfl) | (apply U.bin; rfl; trivial; rfl; trivial; rfl; rfl) | (apply U.len; rfl; trivial; rfl) | refine Tri.skip ?_ | refine Tri.block ?_ | refine Tri.exit ?_ | refine Tri.ret ?_ | (refine Tri.cond rfl (fun h => ?_) (fun h => ?_) <;> (try simp at h) <;> (try contradiction)) | fail)
      · have hia : i < a.length := by omega
        have hib : i < b.length := by omega
        have hga := get_str hia
        have hgb := get_str hib
        refine Tri.regD [] mixed (by kernel_rfl) ?_
        repeat' (first | refine Tri.seq ?_ | refine Tri.reg ?_ | refine TriL.nil ?_ | exact ⟨rfl, rfl, rfl⟩ | (apply D.v; rfl; rfl; rfl) | refine D.nil ?_ | (apply U.moveT; rfl; trivial; rfl) | (apply U.assignT; rfl; trivial; rfl) | (apply U.add; rfl; trivial; rfl; trivial; exact fun _ => wrap_i64 (by omega) (by omega); rfl) | (apply U.bin; rfl; trivial; rfl; trivial; rfl; rfl) | (apply U.loadE; rfl; rfl; trivial; rfl; rfl) | (apply U.idx; rfl; trivial; rfl; trivial; exact fun _ => (by omega); exact fun _ => (by assumption); exact fun _ => rfl; rfl) | refine Tri.skip ?_ | refine Tri.ret ?_ | (refine Tri.cond rfl (fun h => ?_) (fun h => ?_) <;> (try simp at h) <;> (try contradiction)) | fail)
        · refine Comes1.ret rfl (retB ?_)
          have : a ≠ b := fun e => by subst e; simp at *
          simp [this]
        · refine ⟨i + 1, ⟨by omega, ?_⟩, by omega, Sub.of rfl rfl ⟨rfl, rfl, rfl, trivial⟩ trivial⟩
          rw [List.take_succ_eq_append_getElem hia, List.take_succ_eq_append_getElem hib, ht]
          congr 2
          all_goals first | assumption | (simp at *; assumption)
      · refine Comes1.ret rfl (retB ?_)
        have : i = a.length := by omega
        subst this
        rw [List.take_length, hab, List.take_length] at ht
        simp [ht]
mutual
/-- The same type, but for which of its lists are nil. -/
def sameT : Ty → Ty → Bool
  | .mk k _ ns _ l r, u => decide (k = u.kind) && decide (r = u.r) && decide (ns = u.names) && sameTs l u.l
def sameTs : List Ty → List Ty → Bool
  | [], [] => true
  | t :: ts, u :: us => sameT t u && sameTs ts us
  | [], _ :: _ => false
  | _ :: _, [] => false
end
theorem sameT_eq (t u : Ty) : sameT t u = (decide (t.kind = u.kind) && decide (t.r = u.r) && decide (t.names = u.names) && sameTs t.l u.l) := by cases t; rw [sameT]; rfl
theorem sameTs_len : ∀ {a b : List Ty}, sameTs a b = true → a.length = b.length
  | [], [], _ => rfl
  | t :: ts, u :: us, h => by rw [sameTs, Bool.and_eq_true] at h; simp [sameTs_len h.2]
  | [], _ :: _, h => by simp [sameTs] at h
  | _ :: _, [], h => by simp [sameTs] at h
mutual
theorem sameT_refl : ∀ t : Ty, sameT t t = true
  | .mk k nn ns nl l r => by rw [sameT]; simp [Ty.kind, Ty.r, Ty.names, Ty.l, sameTs_refl l]
theorem sameTs_refl : ∀ l : List Ty, sameTs l l = true
  | [] => by rw [sameTs]
  | t :: ts => by rw [sameTs, sameT_refl t, sameTs_refl ts]; rfl
end
theorem sameTypes_core (a b : List Ty) (n1 n2 : Bool) (h1 : a.length ≤ big) (h2 : b.length ≤ big)
    (hel : ∀ (i : Nat) (h : i < a.length) (k : i < b.length), E.Pure Tryd.prog 11 [agTy a[i], agTy b[i]] (.one (.t (tBool (sameT a[i] b[i]))))) :
    E.Pure Tryd.prog 37 [.sl n1 (encTys a), .sl n2 (encTys b)] (.one (.t (tBool (sameTs a b)))) := by
  unfold big at h1 h2
  have hla := encTys_length a
  have hlb := encTys_length b
  refine Pure.of1 Tryd.func37 rfl rfl (Nat.le_of_ble_eq_true rfl) rfl ?_
  repeat' (first | refine Tri.seq ?_ | refine Tri.reg ?_ | refine TriL.nil ?_ | (apply U.moveT; rfl; trivial; rfl) | (apply U.assignT; rfl; trivial; rfl) | (apply U.bin; rfl; trivial; rfl; trivial; rfl; rfl) | (apply U.len; rfl; trivial; rfl) | refine Tri.skip ?_ | refine Tri.block ?_ | refine Tri.ret ?_ | (refine Tri.cond rfl (fun h => ?_) (fun h => ?_) <;> (try simp at h) <;> (try contradiction)) | fail)
  · refine Comes1.ret rfl (retB ?_)
    cases hs : sameTs a b with
    | false => rfl
    | true => exfalso; have := sameTs_len hs; omega
  · have hab : a.length = b.length := by omega
    refine Tri.loopS (α := Nat) (fun i => ⟨[(5, .t (tInt i)), (1, .t (.sl n2 (encTys b))), (0, .t (.sl n1 (encTys a)))], Tryd.f37.ntmps, [], 0, 0⟩)
      (fun i => i ≤ a.length ∧ sameTs a b = sameTs (a.drop i) (b.drop i)) (fun i => a.length - i) 0 ?_ ?_ ?_
    · exact ⟨Nat.zero_le _, rfl⟩
    · exact Sub.of rfl rfl ⟨rfl, rfl, rfl, trivial⟩ trivial
    · rintro i ⟨hi, ht⟩
      repeat' (first | refine Tri.seq ?_ | refine Tri.reg ?_ | refine TriL.nil ?_ | (apply U.moveT; rfl; trivial; rfl) | (apply U.assignT; rfl; trivial; rfl) | (apply U.bin; rfl; trivial; rfl; trivial; rfl; rfl) | (apply U.len; rfl; trivial; rfl) | refine Tri.skip ?_ | refine Tri.block ?_ | refine Tri.exit ?_ | refine Tri.ret ?_ | (refine Tri.cond rfl (fun h => ?_) (fun h => ?_) <;> (try simp at h) <;> (try contradiction)) | fail)
      · have hia : i < a.length := by omega
        have hib : i < b.length := by omega
        have hga := get_ty hia
        have hgb := get_ty hib
        have hel := hel i hia hib
        rw [List.drop_eq_getElem_cons hia, List.drop_eq_getElem_cons hib, sameTs] at ht
        refine Tri.regD [] mixed (by kernel_rfl) ?_
        repeat' (first | refine Tri.seq ?_ | refine Tri.reg ?_ | refine TriL.nil ?_ | exact ⟨rfl, rfl, rfl⟩ | (apply D.v; rfl; rfl; rfl) | refine D.nil ?_ | (apply U.moveT; rfl; trivial; rfl) | (apply U.assignT; rfl; trivial; rfl) | (apply U.add; rfl; trivial; rfl; trivial; exact fun _ => wrap_i64 (by omega) (by omega); rfl) | (apply U.loadES; rfl; rfl; trivial; rfl; rfl; rfl) | (apply U.not; rfl; trivial; rfl) | (apply U.idx; rfl; trivial; rfl; trivial; exact fun _ => (by omega); exact fun _ => (by assumption); exact fun _ => rfl; rfl) | refine U.call2 rfl rfl rfl (by assumption) rfl ?_ | refine Tri.skip ?_ | refine Tri.ret ?_ | (refine Tri.cond rfl (fun h => ?_) (fun h => ?_) <;> (try simp at h) <;> (try contradiction)) | fail)
        · refine Comes1.ret rfl (retB ?_)
          simp [ht, h]
        · refine ⟨i + 1, ⟨by omega, ?_⟩, by omega, Sub.of rfl rfl ⟨rfl, rfl, rfl, trivial⟩ trivial⟩
          simp [ht, h]
      · refine Comes1.ret rfl (retB ?_)
        have : i = a.length := by omega
        subst this
        rw [List.drop_length, hab, List.drop_length, sameTs] at ht
        exact ht.symm
theorem sameType_p : ∀ (m : Nat) (t u : Ty), SizeOf.sizeOf t ≤ m → small t → small u → E.Pure Tryd.prog 11 [encTy t, encTy u] (.one (.t (tBool (sameT t u)))) := by
  intro m
  induction m with
  | zero => intro t u hm; cases t; simp at hm
  | succ m ih =>
    intro t u hm hs hu
    have hn := sameNames_p t.names u.names t.nn u.nn (small_names hs) (small_names hu)
    have hl := sameTypes_core t.l u.l t.nl u.nl (small_l hs) (small_l hu) (fun i h k => by
      have := ih t.l[i] u.l[i] (by have := size_get h t rfl; omega) (smalls_get (small_ls hs) (List.getElem?_eq_getElem h)) (smalls_get (small_ls hu) (List.getElem?_eq_getElem k))
      rwa [encTy_eta, encTy_eta u.l[i]] at this)
    refine Pure.of1 Tryd.func11 rfl rfl (Nat.le_of_ble_eq_true rfl) rfl ?_
    rw [encTy_eta, encTy_eta u]
    repeat' (first | refine Tri.seq ?_ | refine Tri.reg ?_ | refine TriL.nil ?_ | (apply U.moveT; rfl; trivial; rfl) | (apply U.assignT; rfl; trivial; rfl) | (apply U.load; rfl; rfl; trivial; rfl; rfl; rfl) | (apply U.fld; rfl; trivial; rfl; infer_instance; decide; rfl) | (apply U.bin; rfl; trivial; rfl; trivial; rfl; rfl) | (apply U.pickb; rfl; trivial; rfl; (first | trivial | exact id | exact And.right | exact gvA | exact gvB | exact And.left | exact gvN | exact gvP2 | exact gvN2 | exact gvLA); rfl; (first | trivial | exact id | exact And.right | exact gvA | exact gvB | exact And.left | exact gvN | exact gvP2 | exact gvN2 | exact gvLA); rfl) | (apply U.boxA; rfl; rfl) | (apply G.load; rfl; rfl; (first | trivial | exact id | exact And.right | exact gvA | exact gvB | exact And.left | exact gvN | exact gvP2 | exact gvN2 | exact gvLA); rfl; rfl; rfl; rfl; rfl) | (apply G.fld; rfl; (first | trivial | exact id | exact And.right | exact gvA | exact gvB | exact And.left | exact gvN | exact gvP2 | exact gvN2 | exact gvLA); rfl; infer_instance; decide; rfl; rfl; rfl) | (apply G.bin; rfl; (first | trivial | exact id | exact And.right | exact gvA | exact gvB | exact And.left | exact gvN | exact gvP2 | exact gvN2 | exact gvLA); rfl; (first | trivial | exact id | exact And.right | exact gvA | exact gvB | exact And.left | exact gvN | exact gvP2 | exact gvN2 | exact gvLA); rfl; rfl; rfl; rfl) | refine G.call2 rfl rfl (by (first | trivial | exact id | exact And.right | exact gvA | exact gvB | exact And.left | exact gvN | exact gvP2 | exact gvN2 | exact gvLA)) rfl (by (first | trivial | exact id | exact And.right | exact gvA | exact gvB | exact And.left | exact gvN | exact gvP2 | exact gvN2 | exact gvLA)) (by first | assumption | exact fun _ => by assumption) rfl rfl rfl ?_ | refine Tri.ret ?_ | fail)
    refine Comes1.ret rfl (retB ?_)
    rw [sameT_eq]
    simp
end Go.Proofs.YtaplmmhkpljmkaaDoor
