/- Layer 13: the law CtypeChecks answers true. -/
import Derived.Test.YtaplmmhkpljmkaaDoorM11
import Derived.Test.YtaplmmhkpljmkaaDoorM14
namespace Go.Proofs.YtaplmmhkpljmkaaDoor
open Go E
set_option maxRecDepth 100000
set_option maxHeartbeats 4000000
set_option linter.unusedVariables false
set_option linter.unusedSimpArgs false
attribute [local irreducible] Tri TriL TriO PO VO E.Pure DOb
theorem ctypeChecks_p (t : Ty) (s : Sg) (ht : small t) (hs : smallSg s) : E.Pure Tryd.prog 4 [encTy t, encSg s] (.one (.t (tBool true))) := by
  have h1 := check_p lexName_p t ht
  have h2 := may_p t ht
  have h3 := checkSig_p lexName_p s hs
  have h4 := maySig_p s hs
  have h5 := awake_p lexName_p
  refine Pure.of1 Tryd.func4 rfl rfl (Nat.le_of_ble_eq_true rfl) rfl ?_
  rw [encTy_eta] at *
  rw [encSg_eta] at *
  repeat' (first | refine Tri.seq ?_ | refine Tri.reg ?_ | refine TriL.nil ?_ | (apply U.assignT; rfl; trivial; rfl) | (apply U.boxA; rfl; rfl) | fail)
  refine Tri.regD [] mixed (by kernel_rfl) ?_
  repeat' (first | refine TriL.nil ?_ | exact ⟨rfl, rfl, rfl⟩ | (apply D.v; rfl; rfl; rfl) | refine D.nil ?_ | (apply U.moveT; rfl; trivial; rfl) | (apply U.bin; rfl; trivial; rfl; trivial; rfl; rfl) | (apply U.loadS; rfl; rfl; trivial; rfl; rfl; rfl; rfl; rfl) | (apply U.eqb; rfl; trivial; rfl; trivial; rfl) | (apply U.pickb; rfl; trivial; rfl; (first | trivial | exact id | exact And.right | exact gvA | exact gvB | exact And.left | exact gvN | exact gvP2 | exact gvN2 | exact gvLA); rfl; (first | trivial | exact id | exact And.right | exact gvA | exact gvB | exact And.left | exact gvN | exact gvP2 | exact gvN2 | exact gvLA); rfl) | (apply G.moveT; rfl; (first | trivial | exact id | exact And.right | exact gvA | exact gvB | exact And.left | exact gvN | exact gvP2 | exact gvN2 | exact gvLA); rfl; rfl; rfl) | (apply G.bin; rfl; (first | trivial | exact id | exact And.right | exact gvA | exact gvB | exact And.left | exact gvN | exact gvP2 | exact gvN2 | exact gvLA); rfl; (first | trivial | exact id | exact And.right | exact gvA | exact gvB | exact And.left | exact gvN | exact gvP2 | exact gvN2 | exact gvLA); rfl; rfl; rfl; rfl) | (apply G.loadS; rfl; rfl; (first | trivial | exact id | exact And.right | exact gvA | exact gvB | exact And.left | exact gvN | exact gvP2 | exact gvN2 | exact gvLA); rfl; rfl; rfl; rfl; rfl; rfl; rfl) | (apply G.eqb; rfl; (first | trivial | exact id | exact And.right | exact gvA | exact gvB | exact And.left | exact gvN | exact gvP2 | exact gvN2 | exact gvLA); rfl; (first | trivial | exact id | exact And.right | exact gvA | exact gvB | exact And.left | exact gvN | exact gvP2 | exact gvN2 | exact gvLA); rfl; rfl; rfl) | (apply G.pickb; rfl; (first | trivial | exact id | exact And.right | exact gvA | exact gvB | exact And.left | exact gvN | exact gvP2 | exact gvN2 | exact gvLA); rfl; (first | trivial | exact id | exact And.right | exact gvA | exact gvB | exact And.left | exact gvN | exact gvP2 | exact gvN2 | exact gvLA); rfl; (first | trivial | exact id | exact And.right | exact gvA | exact gvB | exact And.left | exact gvN | exact gvP2 | exact gvN2 | exact gvLA); rfl; rfl; rfl) | refine U.call1 rfl rfl (by assumption) rfl ?_ | refine G.call1 rfl rfl (by (first | trivial | exact id | exact And.right | exact gvA | exact gvB | exact And.left | exact gvN | exact gvP2 | exact gvN2 | exact gvLA)) (by first | assumption | exact fun _ => by assumption) rfl rfl rfl ?_ | refine Tri.ret ?_ | fail)
  · refine E.G.call0 rfl (fun _ => h5) rfl rfl rfl ?_
    repeat' (first | refine TriL.nil ?_ | exact ⟨rfl, rfl, rfl⟩ | fail)
  all_goals (repeat' (first | refine TriL.nil ?_ | exact ⟨rfl, rfl, rfl⟩ | (apply U.assignT; rfl; trivial; rfl) | (apply U.pickb; rfl; trivial; rfl; (first | trivial | exact id | exact And.right | exact gvA | exact gvB | exact And.left | exact gvN | exact gvP2 | exact gvN2 | exact gvLA); rfl; (first | trivial | exact id | exact And.right | exact gvA | exact gvB | exact And.left | exact gvN | exact gvP2 | exact gvN2 | exact gvLA); rfl) | fail))
  refine Comes1.ret rfl (retB ?_)
  cases h1 : mayB t <;> cases h2 : maySgB s <;> rfl
end Go.Proofs.YtaplmmhkpljmkaaDoor

/- Layer 13: the reference's SameNames, SameTypes, SameType. -/
namespace Go.Proofs.YtaplmmhkpljmkaaDoor
open Go E
set_option maxRecDepth 100000
set_option maxHeartbeats 4000000
set_option linter.unusedVariables false
set_option linter.unusedSimpArgs false
attribute [local irreducible] Tri TriL TriO PO VO E.Pure DOb
theorem sameNames_p (a b : List ByteArray) (n1 n2 : Bool) (h1 : a.length ≤ big) (h2 : b.length ≤ big) : E.Pure Tryd.prog 36 [.sl n1 (a.map tStr), .sl n2 (b.map tStr)] (.one (.t (tBool (decide (a = b))))) := by
  unfold big at h1 h2
  have hla : (a.map tStr).length = a.length := by simp
  have hlb : (b.map tStr).length = b.length := by simp
  refine Pure.of1 Tryd.func36 rfl rfl (Nat.le_of_ble_eq_true rfl) rfl ?_
  repeat' (first | refine Tri.seq ?_ | refine Tri.reg ?_ | refine TriL.nil ?_ | (apply U.moveT; rfl; trivial; rfl) | (apply U.assignT; rfl; trivial; rfl) | (apply U.bin; rfl; trivial; rfl; trivial; rfl; rfl) | (apply U.len; rfl; trivial; rfl) | refine Tri.skip ?_ | refine Tri.block ?_ | refine Tri.ret ?_ | (refine Tri.cond rfl (fun h => ?_) (fun h => ?_) <;> (try simp at h) <;> (try contradiction)) | fail)
  · refine Comes1.ret rfl (retB ?_)
    have : a ≠ b := fun e => by subst e; simp at *
    simp [this]
  · have hab : a.length = b.length := by simp at *; omega
    refine Tri.loopS (α := Nat) (fun i => ⟨[(5, .t (tInt i)), (1, .t (.sl n2 (b.map tStr))), (0, .t (.sl n1 (a.map tStr)))], Tryd.f36.ntmps, [], 0, 0⟩)
      (fun i => i ≤ a.length ∧ a.take i = b.take i) (fun i => a.length - i) 0 ?_ ?_ ?_
    · exact ⟨Nat.zero_le _, rfl⟩
    · exact Sub.of rfl rfl ⟨rfl, rfl, rfl, trivial⟩ trivial
    · rintro i ⟨hi, ht⟩
      repeat' (first | refine Tri.seq ?_ | refine Tri.reg ?_ | refine TriL.nil ?_ | (apply U.moveT; rfl; trivial; rfl) | (apply U.assignT; rfl; trivial; rfl) | (apply U.bin; rfl; trivial; rfl; trivial; rfl; rfl) | (apply U.len; rfl; trivial; rfl) | refine Tri.skip ?_ | refine Tri.block ?_ | refine Tri.exit ?_ | refine Tri.ret ?_ | (refine Tri.cond rfl (fun h => ?_) (fun h => ?_) <;> (try simp at h) <;> (try contradiction)) | fail)
      · have hia : i < a.length := by omega
        have hib : i < b.length := by omega
        have hga := get_str hia
        have hgb := get_str hib
        refine Tri.regD [] mixed (by kernel_rfl) ?_
        repeat' (first | refine Tri.seq ?_ | refine Tri.reg ?_ | refine TriL.nil ?_ | exact ⟨rfl, rfl, rfl⟩ | (apply D.v; rfl; rfl; rfl) | refine D.nil ?_ | (apply U.moveT; rfl; trivial; rfl) | (apply U.assignT; rfl; trivial; rfl) | (apply U.add; rfl; trivial; rfl; trivial; exact fun _ => wrap_i64 (by omega) (by omega); rfl) | (apply U.bin; rfl; trivial; rfl; trivial; rfl; rfl) | (apply U.loadE; rfl; rfl; trivial; rfl; rfl) | (apply U.idx; rfl; trivial; rfl; trivial; exact fun _ => (by omega); exact fun _ => (by assumption); exact fun _ => rfl; rfl) | refine Tri.skip ?_ | refine Tri.ret ?_ | (refine Tri.cond rfl (fun h => ?_) (fun h => ?_) <;> (try simp at h) <;> (try contradiction)) | fail)
        · refine Comes1.ret rfl (retB ?_)
          have : a ≠ b := fun e => by subst e; simp at *
          simp [this]
        · refine ⟨i + 1, ⟨by omega, ?_⟩, by omega, Sub.of rfl rfl ⟨rfl, rfl, rfl, trivial⟩ trivial⟩
          rw [List.take_succ_eq_append_getElem hia, List.take_succ_eq_append_getElem hib, ht]
          congr 2
          all_goals first | assumption | (simp at *; assumption)
      · refine Comes1.ret rfl (retB ?_)
        have : i = a.length := by omega
        subst this
        rw [List.take_length, hab, List.take_length] at ht
        simp [ht]
mutual
/-- The same type, but for which of its lists are nil. -/
def sameT : Ty → Ty → Bool
  | .mk k _ ns _ l r, u => decide (k = u.kind) && decide (r = u.r) && decide (ns = u.names) && sameTs l u.l
def sameTs : List Ty → List Ty → Bool
  | [], [] => true
  | t :: ts, u :: us => sameT t u && sameTs ts us
  | [], _ :: _ => false
  | _ :: _, [] => false
end
theorem sameT_eq (t u : Ty) : sameT t u = (decide (t.kind = u.kind) && decide (t.r = u.r) && decide (t.names = u.names) && sameTs t.l u.l) := by cases t; rw [sameT]; rfl
theorem sameTs_len : ∀ {a b : List Ty}, sameTs a b = true → a.length = b.length
  | [], [], _ => rfl
  | t :: ts, u :: us, h => by rw [sameTs, Bool.and_eq_true] at h; simp [sameTs_len h.2]
  | [], _ :: _, h => by simp [sameTs] at h
  | _ :: _, [], h => by simp [sameTs] at h
mutual
theorem sameT_refl : ∀ t : Ty, sameT t t = true
  | .mk k nn ns nl l r => by rw [sameT]; simp [Ty.kind, Ty.r, Ty.names, Ty.l, sameTs_refl l]
theorem sameTs_refl : ∀ l : List Ty, sameTs l l = true
  | [] => by rw [sameTs]
  | t :: ts => by rw [sameTs, sameT_refl t, sameTs_refl ts]; rfl
end
theorem sameTypes_core (a b : List Ty) (n1 n2 : Bool) (h1 : a.length ≤ big) (h2 : b.length ≤ big)
    (hel : ∀ (i : Nat) (h : i < a.length) (k : i < b.length), E.Pure Tryd.prog 11 [agTy a[i], agTy b[i]] (.one (.t (tBool (sameT a[i] b[i]))))) :
    E.Pure Tryd.prog 37 [.sl n1 (encTys a), .sl n2 (encTys b)] (.one (.t (tBool (sameTs a b)))) := by
  unfold big at h1 h2
  have hla := encTys_length a
  have hlb := encTys_length b
  refine Pure.of1 Tryd.func37 rfl rfl (Nat.le_of_ble_eq_true rfl) rfl ?_
  repeat' (first | refine Tri.seq ?_ | refine Tri.reg ?_ | refine TriL.nil ?_ | (apply U.moveT; rfl; trivial; rfl) | (apply U.assignT; rfl; trivial; rfl) | (apply U.bin; rfl; trivial; rfl; trivial; rfl; rfl) | (apply U.len; rfl; trivial; rfl) | refine Tri.skip ?_ | refine Tri.block ?_ | refine Tri.ret ?_ | (refine Tri.cond rfl (fun h => ?_) (fun h => ?_) <;> (try simp at h) <;> (try contradiction)) | fail)
  · refine Comes1.ret rfl (retB ?_)
    cases hs : sameTs a b with
    | false => rfl
    | true => exfalso; have := sameTs_len hs; omega
  · have hab : a.length = b.length := by omega
    refine Tri.loopS (α := Nat) (fun i => ⟨[(5, .t (tInt i)), (1, .t (.sl n2 (encTys b))), (0, .t (.sl n1 (encTys a)))], Tryd.f37.ntmps, [], 0, 0⟩)
      (fun i => i ≤ a.length ∧ sameTs a b = sameTs (a.drop i) (b.drop i)) (fun i => a.length - i) 0 ?_ ?_ ?_
    · exact ⟨Nat.zero_le _, rfl⟩
    · exact Sub.of rfl rfl ⟨rfl, rfl, rfl, trivial⟩ trivial
    · rintro i ⟨hi, ht⟩
      repeat' (first | refine Tri.seq ?_ | refine Tri.reg ?_ | refine TriL.nil ?_ | (apply U.moveT; rfl; trivial; rfl) | (apply U.assignT; rfl; trivial; rfl) | (apply U.bin; rfl; trivial; rfl; trivial; rfl; rfl) | (apply U.len; rfl; trivial; rfl) | refine Tri.skip ?_ | refine Tri.block ?_ | refine Tri.exit ?_ | refine Tri.ret ?_ | (refine Tri.cond rfl (fun h => ?_) (fun h => ?_) <;> (try simp at h) <;> (try contradiction)) | fail)
      · have hia : i < a.length := by omega
        have hib : i < b.length := by omega
        have hga := get_ty hia
        have hgb := get_ty hib
        have hel := hel i hia hib
        rw [List.drop_eq_getElem_cons hia, List.drop_eq_getElem_cons hib, sameTs] at ht
        refine Tri.regD [] mixed (by kernel_rfl) ?_
        repeat' (first | refine Tri.seq ?_ | refine Tri.reg ?_ | refine TriL.nil ?_ | exact ⟨rfl, rfl, rfl⟩ | (apply D.v; rfl; rfl; rfl) | refine D.nil ?_ | (apply U.moveT; rfl; trivial; rfl) | (apply U.assignT; rfl; trivial; rfl) | (apply U.add; rfl; trivial; rfl; trivial; exact fun _ => wrap_i64 (by omega) (by omega); rfl) | (apply U.loadES; rfl; rfl; trivial; rfl; rfl; rfl) | (apply U.not; rfl; trivial; rfl) | (apply U.idx; rfl; trivial; rfl; trivial; exact fun _ => (by omega); exact fun _ => (by assumption); exact fun _ => rfl; rfl) | refine U.call2 rfl rfl rfl (by assumption) rfl ?_ | refine Tri.skip ?_ | refine Tri.ret ?_ | (refine Tri.cond rfl (fun h => ?_) (fun h => ?_) <;> (try simp at h) <;> (try contradiction)) | fail)
        · refine Comes1.ret rfl (retB ?_)
          simp [ht, h]
        · refine ⟨i + 1, ⟨by omega, ?_⟩, by omega, Sub.of rfl rfl ⟨rfl, rfl, rfl, trivial⟩ trivial⟩
          simp [ht, h]
      · refine Comes1.ret rfl (retB ?_)
        have : i = a.length := by omega
        subst this
        rw [List.drop_length, hab, List.drop_length, sameTs] at ht
        exact ht.symm
theorem sameType_p : ∀ (m : Nat) (t u : Ty), SizeOf.sizeOf t ≤ m → small t → small u → E.Pure Tryd.prog 11 [encTy t, encTy u] (.one (.t (tBool (sameT t u)))) := by
  intro m
  induction m with
  | zero => intro t u hm; cases t; simp at hm
  | succ m ih =>
    intro t u hm hs hu
    have hn := sameNames_p t.names u.names t.nn u.nn (small_names hs) (small_names hu)
    have hl := sameTypes_core t.l u.l t.nl u.nl (small_l hs) (small_l hu) (fun i h k => by
      have := ih t.l[i] u.l[i] (by have := size_get h t rfl; omega) (smalls_get (small_ls hs) (List.getElem?_eq_getElem h)) (smalls_get (small_ls hu) (List.getElem?_eq_getElem k))
      rwa [encTy_eta, encTy_eta u.l[i]] at this)
    refine Pure.of1 Tryd.func11 rfl rfl (Nat.le_of_ble_eq_true rfl) rfl ?_
    rw [encTy_eta, encTy_eta u]
    repeat' (first | refine Tri.seq ?_ | refine Tri.reg ?_ | refine TriL.nil ?_ | (apply U.moveT; rfl; trivial; rfl) | (apply U.assignT; rfl; trivial; rfl) | (apply U.load; rfl; rfl; trivial; rfl; rfl; rfl) | (apply U.fld; rfl; trivial; rfl; infer_instance; decide; rfl) | (apply U.bin; rfl; trivial; rfl; trivial; rfl; rfl) | (apply U.pickb; rfl; trivial; rfl; (first | trivial | exact id | exact And.right | exact gvA | exact gvB | exact And.left | exact gvN | exact gvP2 | exact gvN2 | exact gvLA); rfl; (first | trivial | exact id | exact And.right | exact gvA | exact gvB | exact And.left | exact gvN | exact gvP2 | exact gvN2 | exact gvLA); rfl) | (apply U.boxA; rfl; rfl) | (apply G.load; rfl; rfl; (first | trivial | exact id | exact And.right | exact gvA | exact gvB | exact And.left | exact gvN | exact gvP2 | exact gvN2 | exact gvLA); rfl; rfl; rfl; rfl; rfl) | (apply G.fld; rfl; (first | trivial | exact id | exact And.right | exact gvA | exact gvB | exact And.left | exact gvN | exact gvP2 | exact gvN2 | exact gvLA); rfl; infer_instance; decide; rfl; rfl; rfl) | (apply G.bin; rfl; (first | trivial | exact id | exact And.right | exact gvA | exact gvB | exact And.left | exact gvN | exact gvP2 | exact gvN2 | exact gvLA); rfl; (first | trivial | exact id | exact And.right | exact gvA | exact gvB | exact And.left | exact gvN | exact gvP2 | exact gvN2 | exact gvLA); rfl; rfl; rfl; rfl) | refine G.call2 rfl rfl (by (first | trivial | exact id | exact And.right | exact gvA | exact gvB | exact And.left | exact gvN | exact gvP2 | exact gvN2 | exact gvLA)) rfl (by (first | trivial | exact id | exact And.right | exact gvA | exact gvB | exact And.left | exact gvN | exact gvP2 | exact gvN2 | exact gvLA)) (by first | assumption | exact fun _ => by assumption) rfl rfl rfl ?_ | refine Tri.ret ?_ | fail)
    refine Comes1.ret rfl (retB ?_)
    rw [sameT_eq]
    simp
end Go.Proofs.YtaplmmhkpljmkaaDoor

/- Layer 13: the reference's digits, next, Aligned. -/
namespace Go.Proofs.YtaplmmhkpljmkaaDoor
open Go E
set_option maxRecDepth 100000
set_option maxHeartbeats 4000000
set_option linter.unusedVariables false
set_option linter.unusedSimpArgs false
attribute [local irreducible] Tri TriL TriO PO VO E.Pure DOb
theorem dig1i : ∀ n : Nat, n < 10 → IntKind.u8.wrap (48 + (n : Int)) = ((UInt8.ofNat (48 + n)).toNat : Int) := by decide +kernel
theorem dig2i : ∀ n : Nat, n < 100 → IntKind.u8.wrap (48 + (n : Int).tmod 10) = ((UInt8.ofNat (48 + n % 10)).toNat : Int) := by decide +kernel
theorem dig1 (n : Nat) (h : n < 10) : [T.v (.int .u8 (IntKind.u8.wrap (48 + (n : Int))))] = [UInt8.ofNat (48 + n)].map tByte := by rw [dig1i n h]; rfl
theorem dig2 (n : Nat) (h : n < 100) : [T.v (.int .u8 (IntKind.u8.wrap (48 + (n : Int).tmod 10)))] = [UInt8.ofNat (48 + n % 10)].map tByte := by rw [dig2i n h]; rfl
theorem dig3 : ∀ n : Nat, n < 100 → ¬ n < 10 → (digT (n / 10) ++ ⟨[UInt8.ofNat (48 + n % 10)].toArray⟩ : ByteArray) = digT n := by
  intro n h h2
  have h3 : n / 10 < 10 := by omega
  rw [digT, digT, if_pos h3, if_neg h2]; rfl
theorem digits_p (n : Nat) (h100 : n < 100) : E.Pure Tryd.prog 38 [tInt n] (.one (.t (tStr (digT n)))) := by
  have small : ∀ n : Nat, n < 10 → E.Pure Tryd.prog 38 [tInt n] (.one (.t (tStr (digT n)))) := fun n h10 => by
    refine Pure.of1 Tryd.func38 rfl rfl (Nat.le_of_ble_eq_true rfl) rfl ?_
    repeat' (first | refine Tri.seq ?_ | refine Tri.reg ?_ | refine TriL.nil ?_ | (apply U.moveT; rfl; trivial; rfl) | (apply U.assignT; rfl; trivial; rfl) | (apply U.add; rfl; trivial; rfl; trivial; exact fun _ => wrap_i64 (by omega) (by omega); rfl) | (apply U.bin; rfl; trivial; rfl; trivial; rfl; rfl) | (apply U.conv; rfl; trivial; rfl; rfl) | refine Tri.skip ?_ | (refine Tri.cond rfl (fun h => ?_) (fun h => ?_) <;> (try simp at h) <;> (try contradiction)) | fail)
    · (apply U.litT; rfl; rfl; rfl; rfl; rfl; rfl; rfl; rfl)
      skip
      refine U.b2s rfl trivial (dig1 n h10) rfl ?_
      repeat' (first | refine TriL.nil ?_ | (apply U.assignT; rfl; trivial; rfl) | refine Tri.ret ?_ | fail)
      refine Comes1.ret rfl ?_
      rw [digT, if_pos h10]; rfl
    · exfalso; omega
  by_cases h2 : n < 10
  · exact small n h2
  have hr := small (n / 10) (by omega)
  have hq : IntKind.i64.wrap ((n : Int).tdiv 10) = ((n / 10 : Nat) : Int) := by
    rw [Int.tdiv_eq_ediv_of_nonneg (by omega), wrap_i64 (by omega) (by omega)]; omega
  have ht : 0 ≤ (n : Int).tmod 10 ∧ (n : Int).tmod 10 < 10 := by rw [Int.tmod_eq_emod_of_nonneg (by omega)]; omega
  refine Pure.of1 Tryd.func38 rfl rfl (Nat.le_of_ble_eq_true rfl) rfl ?_
  repeat' (first | refine Tri.seq ?_ | refine Tri.reg ?_ | refine TriL.nil ?_ | (apply U.moveT; rfl; trivial; rfl) | (apply U.assignT; rfl; trivial; rfl) | (apply U.add; rfl; trivial; rfl; trivial; exact fun _ => wrap_i64 (by omega) (by omega); rfl) | (apply U.bin; rfl; trivial; rfl; trivial; rfl; rfl) | (apply U.conv; rfl; trivial; rfl; rfl) | refine Tri.skip ?_ | (refine Tri.cond rfl (fun h => ?_) (fun h => ?_) <;> (try simp at h) <;> (try contradiction)) | fail)
  · exfalso; omega
  refine Tri.regD [] mixed (by kernel_rfl) ?_
  repeat' (first | refine TriL.nil ?_ | exact ⟨rfl, rfl, rfl⟩ | (apply D.v; rfl; rfl; rfl) | refine D.nil ?_ | (apply U.moveT; rfl; trivial; rfl) | (apply U.add; rfl; trivial; rfl; trivial; exact fun _ => wrap_i64 (by omega) (by omega); rfl) | (apply U.quo; rfl; trivial; rfl; trivial; exact fun _ => (by omega); exact fun _ => (by assumption); rfl) | (apply U.rem; rfl; trivial; rfl; trivial; exact fun _ => (by omega); rfl) | (apply U.conv; rfl; trivial; rfl; rfl) | refine U.call1 rfl rfl (by assumption) rfl ?_ | refine Tri.ret ?_ | fail)
  · (apply U.litT; rfl; rfl; rfl; rfl; rfl; rfl; rfl; rfl)
    repeat' (first | refine TriL.nil ?_ | exact ⟨rfl, rfl, rfl⟩ | fail)
  skip
  · refine U.b2s rfl trivial (dig2 n h100) rfl ?_
    repeat' (first | refine TriL.nil ?_ | exact ⟨rfl, rfl, rfl⟩ | fail)
  skip
  · refine U.cat rfl trivial rfl trivial (fun _ => ?_) rfl ?_
    · simp [digT]; split <;> simp [ByteArray.size]
    repeat' (first | refine TriL.nil ?_ | exact ⟨rfl, rfl, rfl⟩ | fail)
  repeat' (first | refine TriL.nil ?_ | exact ⟨rfl, rfl, rfl⟩ | (apply U.assignT; rfl; trivial; rfl) | fail)
  refine Comes1.ret rfl ?_
  rw [dig3 n h100 h2]; rfl
theorem upN_mul {n k : Int} (h : P2 k) (h0 : 0 ≤ n) (hm : n.tmod k = 0) : upN n k = n := by
  rw [Int.tmod_eq_emod_of_nonneg h0] at hm
  unfold upN
  rcases h with rfl | rfl | rfl | rfl <;> omega
theorem upN_succ {n k : Int} (h : P2 k) (h0 : 0 ≤ n) (hm : n.tmod k ≠ 0) : upN (n + 1) k = upN n k := by
  rw [Int.tmod_eq_emod_of_nonneg h0] at hm
  unfold upN
  rcases h with rfl | rfl | rfl | rfl <;> omega
theorem next_p (n k : Int) (h : 0 ≤ n) (hk : P2 k) (h1 : n ≤ 1000000) : E.Pure Tryd.prog 40 [tInt n, tInt k] (.one (.t (tInt (upN n k)))) := by
  have hp := hk.pos
  have hb := upN_bd h hk
  refine Pure.of1 Tryd.func40 rfl rfl (Nat.le_of_ble_eq_true rfl) rfl ?_
  repeat' (first | refine Tri.seq ?_ | refine Tri.reg ?_ | refine TriL.nil ?_ | (apply U.assignT; rfl; trivial; rfl) | refine Tri.block ?_ | fail)
  refine Tri.loopS (α := Int) (fun i => ⟨[(0, .t (tInt i)), (1, .t (tInt k))], Tryd.f40.ntmps, [], 0, 0⟩)
      (fun i => n ≤ i ∧ i ≤ upN n k ∧ upN i k = upN n k) (fun i => (upN n k - i).toNat) n ?_ ?_ ?_
  · exact ⟨Int.le_refl _, by omega, rfl⟩
  · exact Sub.of rfl rfl ⟨rfl, rfl, trivial⟩ trivial
  · rintro i ⟨hi, hu, he⟩
    repeat' (first | refine Tri.seq ?_ | refine Tri.reg ?_ | refine TriL.nil ?_ | (apply U.moveT; rfl; trivial; rfl) | (apply U.assignT; rfl; trivial; rfl) | (apply U.add; rfl; trivial; rfl; trivial; exact fun _ => wrap_i64 (by omega) (by omega); rfl) | (apply U.rem; rfl; trivial; rfl; trivial; exact fun _ => (by omega); rfl) | (apply U.bin; rfl; trivial; rfl; trivial; rfl; rfl) | refine Tri.skip ?_ | refine Tri.block ?_ | refine Tri.exit ?_ | refine Tri.ret ?_ | (refine Tri.cond rfl (fun h => ?_) (fun h => ?_) <;> (try simp at h) <;> (try contradiction)) | fail)
    · have hs := upN_succ (n := i) hk (by omega) h
      have hb2 := upN_bd (n := i + 1) (by omega) hk
      rw [hs, he] at hb2
      refine ⟨i + 1, ⟨by omega, by omega, by rw [hs, he]⟩, by omega, Sub.of rfl rfl ⟨rfl, rfl, trivial⟩ trivial⟩
    · refine Comes1.ret rfl ?_
      rw [← he, upN_mul hk (by omega) (by assumption)]
def alK (k : Int) (nn : Nat) (m : Int) : Int :=
  if ((k = 0 ∨ k = 1) ∨ k = 2) ∨ k = 3 ∨ (k = 19 ∧ nn ≤ 8) ∨ k = 16 then 1 else if k = 4 ∨ k = 5 ∨ (k = 19 ∧ nn ≤ 16) then 2 else if k = 8 ∨ k = 9 then 8 else if (6 ≤ k ∧ k ≤ 12) ∨ 19 ≤ k then 4 else m
mutual
/-- The reference's Aligned. -/
def alN : Ty → Int
  | .mk k _ ns _ l _ => alK k ns.length (alsN 1 l)
def alsN : Int → List Ty → Int
  | a, [] => a
  | a, t :: ts => alsN (max a (alN t)) ts
end
theorem alN_eq (t : Ty) : alN t = alK t.kind t.names.length (alsN 1 t.l) := by cases t; rfl
theorem aligned_p : ∀ (m : Nat) (t : Ty), SizeOf.sizeOf t ≤ m → small t → E.Pure Tryd.prog 18 [encTy t] (.one (.t (tInt (alN t)))) := by
  intro m
  induction m with
  | zero => intro t hm; cases t; simp at hm
  | succ m ih =>
    intro t hm hs
    have hn := small_names hs
    have hb2 := small_l hs
    unfold big at hb2 hn
    have hlen := encTys_length t.l
    have hlen2 : (t.names.map tStr).length = t.names.length := by simp
    refine Pure.of1 Tryd.func18 rfl rfl (Nat.le_of_ble_eq_true rfl) rfl ?_
    rw [encTy_eta]
    repeat' (first | refine Tri.seq ?_ | refine Tri.reg ?_ | refine TriL.nil ?_ | (apply U.moveT; rfl; trivial; rfl) | (apply U.assignT; rfl; trivial; rfl) | (apply U.load; rfl; rfl; trivial; rfl; rfl; rfl) | (apply U.fld; rfl; trivial; rfl; infer_instance; decide; rfl) | (apply U.bin; rfl; trivial; rfl; trivial; rfl; rfl) | (apply U.pickb; rfl; trivial; rfl; (first | trivial | exact id | exact And.right | exact gvA | exact gvB | exact And.left | exact gvN | exact gvP2 | exact gvN2 | exact gvLA); rfl; (first | trivial | exact id | exact And.right | exact gvA | exact gvB | exact And.left | exact gvN | exact gvP2 | exact gvN2 | exact gvLA); rfl) | (apply U.boxA; rfl; rfl) | (apply G.moveT; rfl; (first | trivial | exact id | exact And.right | exact gvA | exact gvB | exact And.left | exact gvN | exact gvP2 | exact gvN2 | exact gvLA); rfl; rfl; rfl) | (apply G.load; rfl; rfl; (first | trivial | exact id | exact And.right | exact gvA | exact gvB | exact And.left | exact gvN | exact gvP2 | exact gvN2 | exact gvLA); rfl; rfl; rfl; rfl; rfl) | (apply G.fld; rfl; (first | trivial | exact id | exact And.right | exact gvA | exact gvB | exact And.left | exact gvN | exact gvP2 | exact gvN2 | exact gvLA); rfl; infer_instance; decide; rfl; rfl; rfl) | (apply G.bin; rfl; (first | trivial | exact id | exact And.right | exact gvA | exact gvB | exact And.left | exact gvN | exact gvP2 | exact gvN2 | exact gvLA); rfl; (first | trivial | exact id | exact And.right | exact gvA | exact gvB | exact And.left | exact gvN | exact gvP2 | exact gvN2 | exact gvLA); rfl; rfl; rfl; rfl) | (apply G.len; rfl; (first | trivial | exact id | exact And.right | exact gvA | exact gvB | exact And.left | exact gvN | exact gvP2 | exact gvN2 | exact gvLA); rfl; rfl; rfl) | (apply G.pickb; rfl; (first | trivial | exact id | exact And.right | exact gvA | exact gvB | exact And.left | exact gvN | exact gvP2 | exact gvN2 | exact gvLA); rfl; (first | trivial | exact id | exact And.right | exact gvA | exact gvB | exact And.left | exact gvN | exact gvP2 | exact gvN2 | exact gvLA); rfl; (first | trivial | exact id | exact And.right | exact gvA | exact gvB | exact And.left | exact gvN | exact gvP2 | exact gvN2 | exact gvLA); rfl; rfl; rfl) | refine Tri.skip ?_ | refine Tri.block ?_ | refine Tri.ret ?_ | (refine Tri.cond rfl (fun h => ?_) (fun h => ?_) <;> (try simp at h) <;> (try contradiction)) | fail)
    · refine Comes1.ret rfl ?_
      rw [alN_eq, alK, if_pos (by omega)]; rfl
    · refine Comes1.ret rfl ?_
      rw [alN_eq, alK, if_neg (by omega), if_pos (by omega)]; rfl
    · refine Comes1.ret rfl ?_
      rw [alN_eq, alK, if_neg (by omega), if_neg (by omega), if_pos (by omega)]; rfl
    · refine Comes1.ret rfl ?_
      rw [alN_eq, alK, if_neg (by omega), if_neg (by omega), if_neg (by omega), if_pos (by omega)]; rfl
    · have hk : alN t = alsN 1 t.l := by rw [alN_eq, alK, if_neg (by omega), if_neg (by omega), if_neg (by omega), if_neg (by omega)]
      refine Tri.loopS (α := Nat × Int) (fun a => ⟨[(5, .t (tInt a.1)), (4, .t (tInt a.2)), (1, .ptr 0 0)], Tryd.f18.ntmps, [(0, .obj [.t (.v (.int .i64 t.kind)), .t (.sl t.nn (t.names.map tStr)), .t (.sl t.nl (encTys t.l)), .t (.v (.int .i64 t.r))])], 0, 1⟩)
        (fun a => a.1 ≤ t.l.length ∧ alN t = alsN a.2 (t.l.drop a.1)) (fun a => t.l.length - a.1) (0, 1) ?_ ?_ ?_
      · exact ⟨Nat.zero_le _, hk⟩
      · exact Sub.of rfl rfl ⟨rfl, rfl, rfl, trivial⟩ ⟨rfl, trivial⟩
      · rintro ⟨i, a⟩ ⟨hi, hd⟩
        dsimp only at hi hd ⊢
        repeat' (first | refine Tri.seq ?_ | refine Tri.reg ?_ | refine TriL.nil ?_ | (apply U.moveT; rfl; trivial; rfl) | (apply U.assignT; rfl; trivial; rfl) | (apply U.load; rfl; rfl; trivial; rfl; rfl; rfl) | (apply U.fld; rfl; trivial; rfl; infer_instance; decide; rfl) | (apply U.bin; rfl; trivial; rfl; trivial; rfl; rfl) | (apply U.len; rfl; trivial; rfl) | refine Tri.skip ?_ | refine Tri.block ?_ | refine Tri.exit ?_ | refine Tri.ret ?_ | (refine Tri.cond rfl (fun h => ?_) (fun h => ?_) <;> (try simp at h) <;> (try contradiction)) | fail)
        · have hlt : i < t.l.length := by omega
          have hget := get_ty hlt
          have hal := ih t.l[i] (by have := size_get hlt t rfl; omega) (smalls_get (small_ls hs) (List.getElem?_eq_getElem hlt))
          rw [encTy_eta] at hal
          rw [List.drop_eq_getElem_cons hlt, alsN] at hd
          repeat' (first | refine Tri.reg ?_ | refine TriL.nil ?_ | (apply U.moveT; rfl; trivial; rfl) | (apply U.assignT; rfl; trivial; rfl) | (apply U.add; rfl; trivial; rfl; trivial; exact fun _ => wrap_i64 (by omega) (by omega); rfl) | (apply U.loadES; rfl; rfl; trivial; rfl; rfl; rfl) | (apply U.idx; rfl; trivial; rfl; trivial; exact fun _ => (by omega); exact fun _ => (by assumption); exact fun _ => rfl; rfl) | (apply U.max; rfl; trivial; rfl; trivial; rfl) | refine U.call1 rfl rfl (by assumption) rfl ?_ | fail)
          exact ⟨(i + 1, max a (alN t.l[i])), ⟨hlt, hd⟩, by dsimp only; omega, Sub.of rfl rfl ⟨rfl, rfl, rfl, trivial⟩ ⟨rfl, trivial⟩⟩
        · refine Comes1.ret rfl ?_
          have : i = t.l.length := by omega
          subst this
          rw [hd, List.drop_length, alsN]
end Go.Proofs.YtaplmmhkpljmkaaDoor

/- Layer 13: the reference's Inside, Sized. -/
namespace Go.Proofs.YtaplmmhkpljmkaaDoor
open Go E
set_option maxRecDepth 100000
set_option maxHeartbeats 4000000
set_option linter.unusedVariables false
set_option linter.unusedSimpArgs false
attribute [local irreducible] Tri TriL TriO PO VO E.Pure DOb
theorem Vd.kinds {t : Ty} (h : Vd t) : t.kind = 0 ∧ t.l = [] ∨ 1 ≤ t.kind ∧ t.kind ≤ 21 ∧ ownB t = true := by
  rcases h with h | ⟨n, h⟩
  · obtain ⟨h1, h2, h3⟩ := noneT_spec h
    exact .inl ⟨h1, h2⟩
  · have h2 := deepB_own h
    refine .inr ⟨?_, ?_, h2⟩ <;> (unfold ownB at h2; (repeat' split at h2) <;> simp at h2 <;> omega)
/-- What is asked of a type, here and as Plain, that it may be measured. -/
structure Gd (t : Ty) : Prop where
  nm : t.names.length ≤ 64
  l : t.l.length ≤ 65
  fl : t.kind = 19 → t.names.length ≤ 32
  ki : t.kind = 0 ∧ t.l = [] ∨ 1 ≤ t.kind ∧ t.kind ≤ 21
  k16 : t.kind = 16 → t.l = []
  sum : partsGo 1 t.l ≤ 500
  el : ∀ x ∈ t.l, Vd x ∧ (x.kind ≠ 0 → partsN x ≤ 500)
theorem Vd.gd {t : Ty} (hv : Vd t) (hp : t.kind ≠ 0 → partsN t ≤ 500) : Gd t := by
  have h := hv.pl hp
  refine ⟨h.dim.nm, by have := h.dim.l; omega, h.dim.fl, ?_, fun k => ?_, h.sum, h.el⟩
  · rcases hv.kinds with e | e
    · exact .inl e
    · exact .inr ⟨e.1, e.2.1⟩
  · rcases hv.kinds with e | ⟨_, _, e⟩
    · exact e.2
    · simp [ownB, k] at e; exact List.length_eq_zero_iff.1 (by simpa using e.2.2)
theorem Vd.gdPlain {t : Ty} (z : Bool) (hv : Vd t) (hp : t.kind ≠ 0 → partsN t ≤ 500) : Gd (plainT z t) := by
  have h := hv.pl hp
  have hk := hv.kinds
  have hl : (plainT z t).l = (plainT false t).l := by unfold plainT; (repeat' split) <;> rfl
  have hkk := plainT_kind t z
  refine ⟨?_, (plainT_len h.dim).1, (plainT_len h.dim).2, ?_, fun k => absurd k hkk.2.1, by rw [hl]; exact h.sum2, fun x hx => ?_⟩
  · have h1 := h.dim.nm
    have h2 := h.dim.l
    unfold plainT
    split
    · show (digs t.l.length).length ≤ 64
      simp [digs]; omega
    split
    · exact h1
    split
    · exact show 2 ≤ 64 by decide
    split
    · exact show 2 ≤ 64 by decide
    · exact h1
  · have h1 : (1 : Int) ≤ 13 ∧ (13 : Int) ≤ 21 := by decide
    have h2 : (1 : Int) ≤ 15 ∧ (15 : Int) ≤ 21 := by decide
    unfold plainT
    split
    · exact .inr h1
    split
    · exact .inr h2
    split
    · exact .inr h2
    split
    · exact .inr h2
    · rcases hk with e | e
      · exact .inl e
      · exact .inr ⟨e.1, e.2.1⟩
  · rcases plainT_el hx with e | e
    · rw [e]; exact ⟨.inl rfl, fun h => absurd rfl h⟩
    · exact h.el x e
theorem bytesN_1 {n : Int} (h : n ≤ 256) : bytesN n = 1 := by rw [bytesN, if_pos h]
theorem max1 {a : Int} (h : P2 a) : max a 1 = a := by have := h.pos; omega
theorem layN_case {t : Ty} (hv : Gd t) (hp2 : P2 (varF 0 1 t.l).2) :
    (t.kind = 0 ∧ layN t = (0, 1)) ∨ ((t.kind = 11 ∨ t.kind = 12) ∧ layN t = (8, 4)) ∨ ((t.kind = 13 ∨ t.kind = 14) ∧ layN t = (upN (recF 0 1 t.l).1 (recF 0 1 t.l).2, (recF 0 1 t.l).2)) ∨
    ((t.kind = 15 ∨ t.kind = 17 ∨ t.kind = 18) ∧ layN t = (upN ((varF 0 1 t.l).1 + upN 1 (varF 0 1 t.l).2) (varF 0 1 t.l).2, (varF 0 1 t.l).2)) ∨
    ((1 ≤ t.kind ∧ t.kind ≤ 10 ∨ t.kind = 16 ∨ 19 ≤ t.kind) ∧ (layN t).1 = (layN t).2) := by
  have hl := hv.l
  have hn := hv.nm
  rcases hv.ki with ⟨h0, _⟩ | ⟨h1, h2⟩
  · exact .inl ⟨h0, layN_zero h0⟩
  have hvar : ∀ n : Int, n ≤ 256 → varEnd (bytesN n) (varF 0 1 t.l) = (upN ((varF 0 1 t.l).1 + upN 1 (varF 0 1 t.l).2) (varF 0 1 t.l).2, (varF 0 1 t.l).2) := fun n hn => by
    rw [bytesN_1 hn, varEnd, max1 hp2]
  by_cases k11 : t.kind = 11 ∨ t.kind = 12
  · refine .inr (.inl ⟨k11, ?_⟩)
    rw [layN_eq, layK]
    rcases k11 with k | k <;> rw [k] <;> rfl
  by_cases k13 : t.kind = 13 ∨ t.kind = 14
  · refine .inr (.inr (.inl ⟨k13, ?_⟩))
    rw [layN_eq, layK]
    rcases k13 with k | k <;> rw [k] <;> rfl
  by_cases k15 : t.kind = 15 ∨ t.kind = 17 ∨ t.kind = 18
  · refine .inr (.inr (.inr (.inl ⟨k15, ?_⟩)))
    rw [layN_eq, layK]
    rcases k15 with k | k | k <;> rw [k]
    · exact hvar _ (by omega)
    · exact hvar _ (by omega)
    · exact hvar _ (by omega)
  · refine .inr (.inr (.inr (.inr ⟨by omega, ?_⟩)))
    rw [layN_eq, layK, if_neg (by omega)]
    by_cases k16 : t.kind = 16
    · rw [k16]
      show (varEnd (bytesN t.names.length) (0, 1)).1 = (varEnd (bytesN t.names.length) (0, 1)).2
      rw [bytesN_1 (by omega)]; rfl
    · (repeat' split) <;> first | rfl | (exfalso; omega)
theorem alsN_max : ∀ (l : List Ty) (s a : Int), (∀ x ∈ l, alN x = (layN x).2) → (recF s a l).2 = alsN a l ∧ (varF s a l).2 = alsN a l
  | [], s, a, _ => ⟨rfl, rfl⟩
  | t :: ts, s, a, h => by
    rw [recF, varF, alsN, h t (by simp)]
    exact ⟨(alsN_max ts _ _ (fun x hx => h x (by simp [hx]))).1, (alsN_max ts _ _ (fun x hx => h x (by simp [hx]))).2⟩
theorem pw_mono {a b : Nat} (h : a ≤ b) : (2 : Int) ^ a ≤ 2 ^ b := by exact_mod_cast Nat.pow_le_pow_right (show 0 < 2 by decide) h
theorem by19 (n : Nat) : bytesN (2 ^ n) = if n ≤ 8 then 1 else if n ≤ 16 then 2 else 4 := by
  rw [bytesN]
  by_cases h8 : n ≤ 8
  · rw [if_pos h8, if_pos (Int.le_trans (pw_mono h8) (by decide))]
  · have h9 : (512 : Int) ≤ 2 ^ n := Int.le_trans (by decide) (pw_mono (show 9 ≤ n by omega))
    generalize hp : (2 : Int) ^ n = p at h9 ⊢
    rw [if_neg h8, if_neg (by omega)]
    by_cases h16 : n ≤ 16
    · have h17 : p ≤ 65536 := hp ▸ Int.le_trans (pw_mono h16) (by decide)
      rw [if_pos h16, if_pos h17]
    · have h17 : (131072 : Int) ≤ p := hp ▸ Int.le_trans (by decide) (pw_mono (show 17 ≤ n by omega))
      rw [if_neg h16, if_neg (by omega)]
theorem alN_law : ∀ (m : Nat) (t : Ty), SizeOf.sizeOf t ≤ m → Gd t → alN t = (layN t).2 ∧ alsN 1 t.l = (varF 0 1 t.l).2 ∧ alsN 1 t.l = (recF 0 1 t.l).2 ∧ P2 (alsN 1 t.l) := by
  intro m
  induction m with
  | zero => intro t hm; cases t; simp at hm
  | succ m ih =>
    intro t hm hv
    have h := hv
    have hels : ∀ x ∈ t.l, alN x = (layN x).2 := fun x hx => by
      have h1 := List.sizeOf_lt_of_mem hx
      have h2 : SizeOf.sizeOf t.l < SizeOf.sizeOf t := by cases t; simp [Ty.l]; omega
      exact (ih x (by omega) ((h.el x hx).1.gd (h.el x hx).2)).1
    have h1 := alsN_max t.l 0 1 hels
    have hsm : ∀ x ∈ t.l, Sm x := fun x hx => layN_sm x (h.el x hx).2
    have hv2 := varF_sm t.l 0 1 1 hsm (by omega) P2_1 (by omega) (by omega) h.sum
    refine ⟨?_, h1.2.symm, h1.1.symm, by rw [← h1.2]; exact hv2.1⟩
    have hfl := hv.fl
    have hk := hv.ki
    rw [alN_eq, alK]
    rcases layN_case hv hv2.1 with ⟨k, e⟩ | ⟨k, e⟩ | ⟨k, e⟩ | ⟨k, e⟩ | ⟨k, e⟩
    · rw [e, if_pos (by omega)]
    · rw [e, if_neg (by omega), if_neg (by omega), if_neg (by omega), if_pos (by omega)]
    · rw [e, if_neg (by omega), if_neg (by omega), if_neg (by omega), if_neg (by omega)]; exact h1.1.symm
    · rw [e, if_neg (by omega), if_neg (by omega), if_neg (by omega), if_neg (by omega)]; exact h1.2.symm
    · clear e hels h1 hsm hv2
      rw [layN_eq, layK]
      by_cases k19 : t.kind = 19
      · have hn := hfl k19
        rw [k19]
        show _ = (bytesN (2 ^ t.names.length) : Int)
        rw [by19]
        by_cases h8 : t.names.length ≤ 8
        · rw [if_pos (by simp [h8]), if_pos h8]
        · rw [if_neg (by simp [h8]), if_neg h8]
          by_cases h16 : t.names.length ≤ 16
          · rw [if_pos (by simp [h16]), if_pos h16]
          · rw [if_neg (by simp [h16]), if_neg (by omega), if_pos (by omega), if_neg h16]
      · by_cases k16 : t.kind = 16
        · rw [k16]
          show _ = (varEnd (bytesN t.names.length) (0, 1)).2
          have := hv.nm
          rw [bytesN_1 (by omega)]; simp [varEnd]
        · (repeat' split) <;> first | rfl | (exfalso; omega)
theorem inside_p (t : Ty) (hs : small t) (hv : Gd t) : E.Pure Tryd.prog 41 [encTy t] (.one (.t (tInt (upN 1 (varF 0 1 t.l).2)))) := by
  obtain ⟨-, hal, -, hP⟩ := alN_law _ t (Nat.le_refl _) hv
  have hb2 := small_l hs
  have hn := next_p 1 (alsN 1 t.l) (by omega) hP (by omega)
  rw [hal] at hn
  unfold big at hb2
  have hlen := encTys_length t.l
  refine Pure.of1 Tryd.func41 rfl rfl (Nat.le_of_ble_eq_true rfl) rfl ?_
  rw [encTy_eta]
  repeat' (first | refine Tri.seq ?_ | refine Tri.reg ?_ | refine TriL.nil ?_ | (apply U.assignT; rfl; trivial; rfl) | (apply U.boxA; rfl; rfl) | refine Tri.block ?_ | fail)
  refine Tri.loopS (α := Nat × Int) (fun a => ⟨[(4, .t (tInt a.1)), (3, .t (tInt a.2)), (1, .ptr 0 0)], Tryd.f41.ntmps, [(0, .obj [.t (.v (.int .i64 t.kind)), .t (.sl t.nn (t.names.map tStr)), .t (.sl t.nl (encTys t.l)), .t (.v (.int .i64 t.r))])], 0, 1⟩)
    (fun a => a.1 ≤ t.l.length ∧ alsN 1 t.l = alsN a.2 (t.l.drop a.1)) (fun a => t.l.length - a.1) (0, 1) ?_ ?_ ?_
  · exact ⟨Nat.zero_le _, rfl⟩
  · exact Sub.of rfl rfl ⟨rfl, rfl, rfl, trivial⟩ ⟨rfl, trivial⟩
  · rintro ⟨i, a⟩ ⟨hi, hd⟩
    dsimp only at hi hd ⊢
    repeat' (first | refine Tri.seq ?_ | refine Tri.reg ?_ | refine TriL.nil ?_ | (apply U.moveT; rfl; trivial; rfl) | (apply U.load; rfl; rfl; trivial; rfl; rfl; rfl) | (apply U.fld; rfl; trivial; rfl; infer_instance; decide; rfl) | (apply U.bin; rfl; trivial; rfl; trivial; rfl; rfl) | (apply U.len; rfl; trivial; rfl) | refine Tri.skip ?_ | refine Tri.block ?_ | refine Tri.exit ?_ | (refine Tri.cond rfl (fun h => ?_) (fun h => ?_) <;> (try simp at h) <;> (try contradiction)) | fail)
    · have hlt : i < t.l.length := by omega
      have hget := get_ty hlt
      have hal := aligned_p _ t.l[i] (Nat.le_refl _) (smalls_get (small_ls hs) (List.getElem?_eq_getElem hlt))
      rw [encTy_eta] at hal
      rw [List.drop_eq_getElem_cons hlt, alsN] at hd
      repeat' (first | refine Tri.reg ?_ | refine TriL.nil ?_ | (apply U.moveT; rfl; trivial; rfl) | (apply U.assignT; rfl; trivial; rfl) | (apply U.add; rfl; trivial; rfl; trivial; exact fun _ => wrap_i64 (by omega) (by omega); rfl) | (apply U.loadES; rfl; rfl; trivial; rfl; rfl; rfl) | (apply U.idx; rfl; trivial; rfl; trivial; exact fun _ => (by omega); exact fun _ => (by assumption); exact fun _ => rfl; rfl) | (apply U.max; rfl; trivial; rfl; trivial; rfl) | refine U.call1 rfl rfl (by assumption) rfl ?_ | fail)
      exact ⟨(i + 1, max a (alN t.l[i])), ⟨hlt, hd⟩, by dsimp only; omega, Sub.of rfl rfl ⟨rfl, rfl, rfl, trivial⟩ ⟨rfl, trivial⟩⟩
    · have : i = t.l.length := by omega
      subst this
      rw [List.drop_length, alsN, hal] at hd
      rw [hd] at hn
      repeat' (first | refine TriL.nil ?_ | (apply U.assignT; rfl; trivial; rfl) | refine U.call2 rfl rfl rfl (by assumption) rfl ?_ | refine Tri.ret ?_ | fail)
      refine Comes1.ret rfl ?_
      rw [hd]
theorem sized_p : ∀ (m : Nat) (t : Ty), SizeOf.sizeOf t ≤ m → small t → Gd t → E.Pure Tryd.prog 16 [encTy t] (.one (.t (tInt (layN t).1))) := by
  intro m
  induction m with
  | zero => intro t hm; cases t; simp at hm
  | succ m ih =>
    intro t hm hs hv
    have h := hv
    have hb2 := small_l hs
    unfold big at hb2
    have hlen := encTys_length t.l
    obtain ⟨hal, hal1, hal2, hP⟩ := alN_law _ t (Nat.le_refl _) hv
    have hc := layN_case hv (by rw [← hal1]; exact hP)
    have hk := hv.ki
    have ha := aligned_p _ t (Nat.le_refl _) hs
    rw [hal, encTy_eta] at ha
    have hin := inside_p t hs hv
    rw [encTy_eta] at hin
    have hpp := h.sum
    have hels : ∀ (i : Nat) (hi : i < t.l.length), Sm t.l[i] ∧ E.Pure Tryd.prog 18 [agTy t.l[i]] (.one (.t (tInt (layN t.l[i]).2))) ∧ E.Pure Tryd.prog 16 [agTy t.l[i]] (.one (.t (tInt (layN t.l[i]).1))) := fun i hi => by
      have hmem := List.getElem_mem hi
      have hsz := size_get hi t rfl
      have hsi := smalls_get (small_ls hs) (List.getElem?_eq_getElem hi)
      have h1 := aligned_p _ t.l[i] (Nat.le_refl _) hsi
      rw [(alN_law _ _ (Nat.le_refl _) ((h.el _ hmem).1.gd (h.el _ hmem).2)).1, encTy_eta] at h1
      have h2 := ih t.l[i] (by omega) hsi ((h.el _ hmem).1.gd (h.el _ hmem).2)
      rw [encTy_eta] at h2
      exact ⟨layN_sm _ (h.el _ hmem).2, h1, h2⟩
    have hgp := partsGo_le 1 t.l
    clear h ih
    refine Pure.of1 Tryd.func16 rfl rfl (Nat.le_of_ble_eq_true rfl) rfl ?_
    rw [encTy_eta]
    repeat' (first | refine Tri.seq ?_ | refine Tri.reg ?_ | refine TriL.nil ?_ | (apply U.moveT; rfl; trivial; rfl) | (apply U.assignT; rfl; trivial; rfl) | (apply U.load; rfl; rfl; trivial; rfl; rfl; rfl) | (apply U.fld; rfl; trivial; rfl; infer_instance; decide; rfl) | (apply U.bin; rfl; trivial; rfl; trivial; rfl; rfl) | (apply U.loadS; rfl; rfl; trivial; rfl; rfl; rfl; rfl; rfl) | (apply U.pickb; rfl; trivial; rfl; (first | trivial | exact id | exact And.right | exact gvA | exact gvB | exact And.left | exact gvN | exact gvP2 | exact gvN2 | exact gvLA); rfl; (first | trivial | exact id | exact And.right | exact gvA | exact gvB | exact And.left | exact gvN | exact gvP2 | exact gvN2 | exact gvLA); rfl) | (apply U.boxA; rfl; rfl) | (apply G.moveT; rfl; (first | trivial | exact id | exact And.right | exact gvA | exact gvB | exact And.left | exact gvN | exact gvP2 | exact gvN2 | exact gvLA); rfl; rfl; rfl) | (apply G.bin; rfl; (first | trivial | exact id | exact And.right | exact gvA | exact gvB | exact And.left | exact gvN | exact gvP2 | exact gvN2 | exact gvLA); rfl; (first | trivial | exact id | exact And.right | exact gvA | exact gvB | exact And.left | exact gvN | exact gvP2 | exact gvN2 | exact gvLA); rfl; rfl; rfl; rfl) | refine U.call1 rfl rfl (by assumption) rfl ?_ | refine Tri.skip ?_ | refine Tri.block ?_ | refine Tri.ret ?_ | (refine Tri.cond rfl (fun h => ?_) (fun h => ?_) <;> (try simp at h) <;> (try contradiction)) | fail)
    · refine Comes1.ret rfl ?_
      rw [layN_zero (by assumption)]; rfl
    · refine Comes1.ret rfl ?_
      rcases hc with ⟨k, e⟩ | ⟨k, e⟩ | ⟨k, e⟩ | ⟨k, e⟩ | ⟨k, e⟩ <;> first | (rw [e]; done) | (rw [e]; rfl) | (exfalso; omega)
    · refine Comes1.ret rfl ?_
      rcases hc with ⟨k, e⟩ | ⟨k, e⟩ | ⟨k, e⟩ | ⟨k, e⟩ | ⟨k, e⟩ <;> first | (rw [e]; done) | (rw [e]; rfl) | (exfalso; omega)
    · -- a record
      have hsz : layN t = (upN (recF 0 1 t.l).1 (recF 0 1 t.l).2, (recF 0 1 t.l).2) := by
        rcases hc with ⟨k, e⟩ | ⟨k, e⟩ | ⟨k, e⟩ | ⟨k, e⟩ | ⟨k, e⟩ <;> first | exact e | (exfalso; omega)
      refine Tri.loopS (α := Nat × Int × Int × Int) (fun a => ⟨[(5, .t (tInt a.1)), (4, .t (tInt a.2.1)), (1, .ptr 0 0)], Tryd.f16.ntmps, [(0, .obj [.t (.v (.int .i64 t.kind)), .t (.sl t.nn (t.names.map tStr)), .t (.sl t.nl (encTys t.l)), .t (.v (.int .i64 t.r))])], 0, 1⟩)
        (fun a => a.1 ≤ t.l.length ∧ recF 0 1 t.l = recF a.2.1 a.2.2.1 (t.l.drop a.1) ∧ partsGo 1 t.l = partsGo a.2.2.2 (t.l.drop a.1) ∧ P2 a.2.2.1 ∧ 0 ≤ a.2.1 ∧ a.2.1 ≤ 16 * (a.2.2.2 - 1) ∧ 1 ≤ a.2.2.2) (fun a => t.l.length - a.1) (0, 0, 1, 1) ?_ ?_ ?_
      · exact ⟨Nat.zero_le _, rfl, rfl, P2_1, by simp, by simp, by simp⟩
      · exact Sub.of rfl rfl ⟨rfl, rfl, rfl, trivial⟩ ⟨rfl, trivial⟩
      · rintro ⟨i, s, a, n⟩ ⟨hi, hr, hg, haP, hs0, hs1, hn⟩
        dsimp only at hi hr hg haP hs0 hs1 hn ⊢
        repeat' (first | refine Tri.seq ?_ | refine Tri.reg ?_ | refine TriL.nil ?_ | (apply U.moveT; rfl; trivial; rfl) | (apply U.load; rfl; rfl; trivial; rfl; rfl; rfl) | (apply U.fld; rfl; trivial; rfl; infer_instance; decide; rfl) | (apply U.bin; rfl; trivial; rfl; trivial; rfl; rfl) | (apply U.len; rfl; trivial; rfl) | (apply U.loadS; rfl; rfl; trivial; rfl; rfl; rfl; rfl; rfl) | refine U.call1 rfl rfl (by assumption) rfl ?_ | refine Tri.skip ?_ | refine Tri.block ?_ | refine Tri.exit ?_ | (refine Tri.cond rfl (fun h => ?_) (fun h => ?_) <;> (try simp at h) <;> (try contradiction)) | fail)
        · have hlt : i < t.l.length := by omega
          have hget := get_ty hlt
          obtain ⟨hsm, hea, hes⟩ := hels i hlt
          have hd := List.drop_eq_getElem_cons hlt
          rw [hd] at hr hg
          rw [recF] at hr
          have hp2 := partsGo_pw (n := n) (t := t.l[i]) (ts := t.l.drop (i + 1)) (by rw [← hg]; exact hpp)
          rw [partsGo_cons (by omega)] at hg
          have hA := hsm.al.pos
          have q1 := hsm.s0
          have q2 := hsm.s1
          have q3 := pw_nonneg t.l[i]
          have q4 := upN_bd hs0 hsm.al
          have hup := next_p s (layN t.l[i]).2 hs0 hsm.al (by omega)
          refine Tri.regD [] mixed (by kernel_rfl) ?_
          repeat' (first | refine Tri.reg ?_ | refine TriL.nil ?_ | exact ⟨rfl, rfl, rfl⟩ | (apply D.v; rfl; rfl; rfl) | refine D.nil ?_ | (apply U.moveT; rfl; trivial; rfl) | (apply U.assignT; rfl; trivial; rfl) | (apply U.load; rfl; rfl; trivial; rfl; rfl; rfl) | (apply U.fld; rfl; trivial; rfl; infer_instance; decide; rfl) | (apply U.add; rfl; trivial; rfl; trivial; exact fun _ => wrap_i64 (by omega) (by omega); rfl) | (apply U.loadES; rfl; rfl; trivial; rfl; rfl; rfl) | (apply U.idx; rfl; trivial; rfl; trivial; exact fun _ => (by omega); exact fun _ => (by assumption); exact fun _ => rfl; rfl) | refine U.call1 rfl rfl (by assumption) rfl ?_ | refine U.call2 rfl rfl rfl (by assumption) rfl ?_ | fail)
          refine ⟨(i + 1, upN s (layN t.l[i]).2 + (layN t.l[i]).1, max a (layN t.l[i]).2, n + pw t.l[i]), ⟨hlt, hr, hg, haP.max hsm.al, by dsimp only; omega, ?_, by dsimp only; omega⟩, by dsimp only; omega, Sub.of rfl rfl ⟨rfl, rfl, rfl, trivial⟩ ⟨rfl, trivial⟩⟩
          dsimp only
          by_cases e : pw t.l[i] = 0
          · have : upN s (layN t.l[i]).2 = s := by
              have hk : t.l[i].kind = 0 := by
                unfold pw at e; split at e
                · assumption
                · have := partsN_le t.l[i]; omega
              rw [layN_zero hk]; simp [upN]
            omega
          · omega
        · have hz : i = t.l.length := by omega
          subst hz
          have hpg := partsGo_le n (t.l.drop t.l.length)
          rw [List.drop_length] at hr hg hpg
          rw [recF] at hr
          rw [hr] at hsz
          have hn5 : n ≤ 500 := by omega
          have hA := haP.pos
          have hup := next_p s a hs0 haP (by omega)
          rw [hsz] at ha ⊢
          repeat' (first | refine TriL.nil ?_ | (apply U.assignT; rfl; trivial; rfl) | refine U.call2 rfl rfl rfl (by assumption) rfl ?_ | refine Tri.ret ?_ | fail)
          exact Comes1.ret rfl rfl
    · -- a variant
      have hsz : layN t = (upN ((varF 0 1 t.l).1 + upN 1 (varF 0 1 t.l).2) (varF 0 1 t.l).2, (varF 0 1 t.l).2) := by
        rcases hc with ⟨k, e⟩ | ⟨k, e⟩ | ⟨k, e⟩ | ⟨k, e⟩ | ⟨k, e⟩ <;> first | exact e | (exfalso; omega)
      refine Tri.loopS (α := Nat × Int × Int × Int) (fun a => ⟨[(7, .t (tInt a.1)), (6, .t (tInt a.2.1)), (1, .ptr 0 0)], Tryd.f16.ntmps, [(0, .obj [.t (.v (.int .i64 t.kind)), .t (.sl t.nn (t.names.map tStr)), .t (.sl t.nl (encTys t.l)), .t (.v (.int .i64 t.r))])], 0, 1⟩)
        (fun a => a.1 ≤ t.l.length ∧ varF 0 1 t.l = varF a.2.1 a.2.2.1 (t.l.drop a.1) ∧ partsGo 1 t.l = partsGo a.2.2.2 (t.l.drop a.1) ∧ P2 a.2.2.1 ∧ 0 ≤ a.2.1 ∧ a.2.1 ≤ max 0 (16 * (a.2.2.2 - 1) - 8) ∧ 1 ≤ a.2.2.2) (fun a => t.l.length - a.1) (0, 0, 1, 1) ?_ ?_ ?_
      · exact ⟨Nat.zero_le _, rfl, rfl, P2_1, by simp, by dsimp only; omega, by simp⟩
      · exact Sub.of rfl rfl ⟨rfl, rfl, rfl, trivial⟩ ⟨rfl, trivial⟩
      · rintro ⟨i, s, a, n⟩ ⟨hi, hr, hg, haP, hs0, hs1, hn⟩
        dsimp only at hi hr hg haP hs0 hs1 hn ⊢
        repeat' (first | refine Tri.seq ?_ | refine Tri.reg ?_ | refine TriL.nil ?_ | (apply U.moveT; rfl; trivial; rfl) | (apply U.load; rfl; rfl; trivial; rfl; rfl; rfl) | (apply U.fld; rfl; trivial; rfl; infer_instance; decide; rfl) | (apply U.bin; rfl; trivial; rfl; trivial; rfl; rfl) | (apply U.len; rfl; trivial; rfl) | refine Tri.skip ?_ | refine Tri.block ?_ | refine Tri.exit ?_ | (refine Tri.cond rfl (fun h => ?_) (fun h => ?_) <;> (try simp at h) <;> (try contradiction)) | fail)
        · have hlt : i < t.l.length := by omega
          have hget := get_ty hlt
          obtain ⟨hsm, -, hes⟩ := hels i hlt
          have hd := List.drop_eq_getElem_cons hlt
          rw [hd] at hr hg
          rw [varF] at hr
          have hp2 := partsGo_pw (n := n) (t := t.l[i]) (ts := t.l.drop (i + 1)) (by rw [← hg]; exact hpp)
          rw [partsGo_cons (by omega)] at hg
          have hA := hsm.al.pos
          have q1 := hsm.s0
          have q2 := hsm.s1
          have q3 := pw_nonneg t.l[i]
          repeat' (first | refine Tri.reg ?_ | refine TriL.nil ?_ | (apply U.moveT; rfl; trivial; rfl) | (apply U.assignT; rfl; trivial; rfl) | (apply U.add; rfl; trivial; rfl; trivial; exact fun _ => wrap_i64 (by omega) (by omega); rfl) | (apply U.loadES; rfl; rfl; trivial; rfl; rfl; rfl) | (apply U.idx; rfl; trivial; rfl; trivial; exact fun _ => (by omega); exact fun _ => (by assumption); exact fun _ => rfl; rfl) | (apply U.max; rfl; trivial; rfl; trivial; rfl) | refine U.call1 rfl rfl (by assumption) rfl ?_ | fail)
          refine ⟨(i + 1, max s (layN t.l[i]).1, max a (layN t.l[i]).2, n + pw t.l[i]), ⟨hlt, hr, hg, haP.max hsm.al, by dsimp only; omega, by dsimp only; omega, by dsimp only; omega⟩, by dsimp only; omega, Sub.of rfl rfl ⟨rfl, rfl, rfl, trivial⟩ ⟨rfl, trivial⟩⟩
        · have hz : i = t.l.length := by omega
          subst hz
          have hpg := partsGo_le n (t.l.drop t.l.length)
          rw [List.drop_length] at hr hg hpg
          rw [varF] at hr
          rw [hr] at hsz hin
          dsimp only at hsz hin
          have hn5 : n ≤ 500 := by omega
          have hA := haP.pos
          have hu1 := upN_bd (n := 1) (by omega) haP
          have hup := next_p (s + upN 1 a) a (by omega) haP (by omega)
          rw [Int.add_comm] at hup
          rw [hsz] at ha ⊢
          dsimp only at ha ⊢
          rw [Int.add_comm s]
          refine Tri.regD [] mixed (by kernel_rfl) ?_
          repeat' (first | refine TriL.nil ?_ | exact ⟨rfl, rfl, rfl⟩ | (apply D.v; rfl; rfl; rfl) | refine D.nil ?_ | (apply U.moveT; rfl; trivial; rfl) | (apply U.assignT; rfl; trivial; rfl) | (apply U.add; rfl; trivial; rfl; trivial; exact fun _ => wrap_i64 (by omega) (by omega); rfl) | (apply U.loadS; rfl; rfl; trivial; rfl; rfl; rfl; rfl; rfl) | refine U.call1 rfl rfl (by assumption) rfl ?_ | refine U.call2 rfl rfl rfl (by assumption) rfl ?_ | refine Tri.ret ?_ | fail)
          exact Comes1.ret rfl rfl
end Go.Proofs.YtaplmmhkpljmkaaDoor

/- Layer 13: the reference's Plain. -/
namespace Go.Proofs.YtaplmmhkpljmkaaDoor
open Go E
set_option maxRecDepth 100000
set_option maxHeartbeats 4000000
set_option linter.unusedVariables false
set_option linter.unusedSimpArgs false
attribute [local irreducible] Tri TriL TriO PO VO E.Pure DOb
theorem plainR_p (t : Ty) (h1 : t.names.length ≤ 64) (h2 : t.l.length ≤ 64) : E.Pure Tryd.prog 12 [encTy t] (.one (.t (encTy (plainT true t)))) := by
  have hlen := encTys_length t.l
  have hlen2 : (t.names.map tStr).length = t.names.length := by simp
  refine Pure.ofC rfl Tryd.func12 rfl rfl (Nat.le_of_ble_eq_true rfl) rfl ?_
  rw [encTy_eta t]
  repeat' (first | refine Tri.seq ?_ | refine Tri.reg ?_ | refine TriL.nil ?_ | (apply U.assignT; rfl; trivial; rfl) | (apply U.load; rfl; rfl; trivial; rfl; rfl; rfl) | (apply U.fld; rfl; trivial; rfl; infer_instance; decide; rfl) | (apply U.bin; rfl; trivial; rfl; trivial; rfl; rfl) | (apply U.loadS; rfl; rfl; trivial; rfl; rfl; rfl; rfl; rfl) | (apply U.boxA; rfl; rfl) | (apply U.alloc; rfl; rfl; rfl; rfl) | (apply U.storeS; rfl; rfl; rfl; rfl; rfl; rfl; rfl; rfl) | refine Tri.skip ?_ | refine Tri.block ?_ | refine Tri.ret ?_ | (apply U.build; rfl; rfl; rfl; rfl; rfl) | (refine Tri.cond rfl (fun h => ?_) (fun h => ?_) <;> (try simp at h) <;> (try contradiction)) | fail)
  · -- a tuple
    have h14 := h
    refine Tri.loopL (fun i => match i with
        | 0 => ⟨[(4, .t (tInt ((0 : Nat) : Int))), (3, .ptr 2 0), (2, .ptr 1 0), (1, .ptr 0 0)], Tryd.f12.ntmps, [(2, .obj [.t (tInt 13), .t (.sl true []), .t (.sl true []), .t (tInt 0)]), (1, .obj [.t (tInt 0), .t (.sl true []), .t (.sl true []), .t (tInt 0)]), (0, .obj [.t (.v (.int .i64 t.kind)), .t (.sl t.nn (t.names.map tStr)), .t (.sl t.nl (encTys t.l)), .t (.v (.int .i64 t.r))])], 0, 3⟩
        | k + 1 => ⟨[(4, .t (tInt ((k + 1 : Nat) : Int))), (3, .ptr 2 0), (2, .ptr 1 0), (1, .ptr 0 0)], Tryd.f12.ntmps, [(2, .obj [.t (tInt 13), .ref 3 1 0 (k + 1) (k + 1), .ref 4 4 0 (k + 1) (k + 1), .t (tInt 0)]), (1, .obj [.t (tInt 0), .t (.sl true []), .t (.sl true []), .t (tInt 0)]), (0, .obj [.t (.v (.int .i64 t.kind)), .t (.sl t.nn (t.names.map tStr)), .t (.sl t.nl (encTys t.l)), .t (.v (.int .i64 t.r))]), (3, .row 1 ((digs (k + 1)).map tStr) false), (4, .row 4 (encTys (t.l.take (k + 1))) false)], 0, 5⟩)
      (fun i => i ≤ t.l.length) (fun i => t.l.length - i) 0 (Nat.zero_le _) ?_ ?_
    · exact Sub.less (Sub.of rfl rfl ⟨rfl, rfl, rfl, rfl, trivial⟩ ⟨rfl, rfl, rfl, trivial⟩)
    rintro (_ | k) hi
    · repeat' (first | refine Tri.seq ?_ | refine Tri.reg ?_ | refine TriL.nil ?_ | (apply U.moveT; rfl; trivial; rfl) | (apply U.assignT; rfl; trivial; rfl) | (apply U.load; rfl; rfl; trivial; rfl; rfl; rfl) | (apply U.fld; rfl; trivial; rfl; infer_instance; decide; rfl) | (apply U.bin; rfl; trivial; rfl; trivial; rfl; rfl) | (apply U.len; rfl; trivial; rfl) | (apply U.loadS; rfl; rfl; trivial; rfl; rfl; rfl; rfl; rfl) | (apply U.storeS; rfl; rfl; rfl; rfl; rfl; rfl; rfl; rfl) | refine Tri.skip ?_ | refine Tri.block ?_ | refine Tri.exit ?_ | refine Tri.ret ?_ | (apply U.build; rfl; rfl; rfl; rfl; rfl) | (refine Tri.cond rfl (fun h => ?_) (fun h => ?_) <;> (try simp at h) <;> (try contradiction)) | fail)
      · have hlt : 0 < t.l.length := by omega
        have hget := get_ty hlt
        have hit := digits_p 0 (by omega)
        refine Tri.regD [5, 7] mixed (by kernel_rfl) ?_
        repeat' (first | refine TriL.nil ?_ | exact ⟨rfl, rfl, rfl⟩ | (apply D.v; rfl; rfl; rfl) | (apply U.moveT; rfl; trivial; rfl) | (apply U.load; rfl; rfl; trivial; rfl; rfl; rfl) | (apply U.fld; rfl; trivial; rfl; infer_instance; decide; rfl) | refine U.call1 rfl rfl (by assumption) rfl ?_ | fail)
        · (apply U.litT; rfl; rfl; rfl; rfl; rfl; rfl; rfl; rfl)
          repeat' (first | refine TriL.nil ?_ | exact ⟨rfl, rfl, rfl⟩ | fail)
        skip
        (apply D.e; rfl; rfl; rfl; rotate_left)
        · refine U.appNil rfl (SrcE.t rfl rfl) Nat.zero_lt_one (Nat.le_of_ble_eq_true rfl) (Nat.le_of_ble_eq_true rfl) rfl ?_
          repeat' (first | refine TriL.nil ?_ | exact ⟨rfl, rfl, rfl⟩ | fail)
        repeat' (first | refine TriL.nil ?_ | exact ⟨rfl, rfl, rfl⟩ | (apply D.v; rfl; rfl; rfl) | (apply U.fld; rfl; trivial; rfl; infer_instance; decide; rfl) | fail)
        (apply D.s; rfl; rfl; rfl; rotate_left)
        repeat' (first | refine TriL.nil ?_ | refine D.nil ?_ | (apply U.store; rfl; rfl; rfl; rfl; rfl; rfl; rfl) | exact ⟨rfl, rfl⟩ | fail)
        · refine Tri.regD [8, 10] mixed (by kernel_rfl) ?_
          repeat' (first | refine TriL.nil ?_ | exact ⟨rfl, rfl, rfl⟩ | (apply D.v; rfl; rfl; rfl) | (apply U.moveT; rfl; trivial; rfl) | (apply U.load; rfl; rfl; trivial; rfl; rfl; rfl) | (apply U.fld; rfl; trivial; rfl; infer_instance; decide; rfl) | (apply U.loadES; rfl; rfl; trivial; rfl; rfl; rfl) | (apply U.idx; rfl; trivial; rfl; trivial; exact fun _ => (by omega); exact fun _ => (by assumption); exact fun _ => rfl; rfl) | fail)
          · (apply U.litT; rfl; rfl; rfl; rfl; rfl; rfl; rfl; rfl)
            repeat' (first | refine TriL.nil ?_ | exact ⟨rfl, rfl, rfl⟩ | fail)
          skip
          (apply D.e; rfl; rfl; rfl; rotate_left)
          · refine U.appNil rfl (SrcE.t rfl rfl) Nat.zero_lt_one (Nat.le_of_ble_eq_true rfl) (Nat.le_of_ble_eq_true rfl) rfl ?_
            repeat' (first | refine TriL.nil ?_ | exact ⟨rfl, rfl, rfl⟩ | fail)
          repeat' (first | refine TriL.nil ?_ | exact ⟨rfl, rfl, rfl⟩ | (apply D.v; rfl; rfl; rfl) | (apply U.fld; rfl; trivial; rfl; infer_instance; decide; rfl) | fail)
          (apply D.s; rfl; rfl; rfl; rotate_left)
          repeat' (first | refine Tri.reg ?_ | refine TriL.nil ?_ | refine D.nil ?_ | (apply U.moveT; rfl; trivial; rfl) | (apply U.assignT; rfl; trivial; rfl) | (apply U.add; rfl; trivial; rfl; trivial; exact fun _ => wrap_i64 (by omega) (by omega); rfl) | (apply U.store; rfl; rfl; rfl; rfl; rfl; rfl; rfl) | exact ⟨rfl, rfl⟩ | fail)
          · refine ⟨0 + 1, hlt, by omega, ?_⟩
            refine Less.ren (fun b => if b = 3 then 3 else if b = 4 then 4 else b) rfl rfl ⟨rfl, rfl, rfl, rfl, trivial⟩ ⟨rfl, rfl, rfl, ?_, ?_, trivial⟩ rfl rfl rfl
            · rfl
            · rw [show t.l.take (0 + 1) = [t.l[0]] from (by rw [List.take_succ_eq_append_getElem hlt]; rfl), encTys, encTys, encTy_eta]; rfl
          all_goals first | (exact fun _ => .of ⟨rfl, rfl, trivial⟩) | (exact fun _ => .nil) | (intro h_; cases h_)
        all_goals first | (exact fun _ => .of ⟨rfl, rfl, trivial⟩) | (exact fun _ => .nil) | (intro h_; cases h_)
      · exfalso; omega
      · exfalso; omega
      · exfalso; omega
      · -- the end
        have hz : t.l.length = 0 := by first | omega | exact List.length_eq_zero_iff.2 (by assumption) | (have h0_ : encTys t.l = [] := (by assumption); rw [h0_] at hlen; exact hlen.symm)
        refine ComesC.tree rfl rfl rfl rfl ?_
        rw [plainT, if_pos (by assumption)]
        have : t.l = [] := List.length_eq_zero_iff.1 hz
        rw [this]; rfl
    · repeat' (first | refine Tri.seq ?_ | refine Tri.reg ?_ | refine TriL.nil ?_ | (apply U.moveT; rfl; trivial; rfl) | (apply U.assignT; rfl; trivial; rfl) | (apply U.load; rfl; rfl; trivial; rfl; rfl; rfl) | (apply U.fld; rfl; trivial; rfl; infer_instance; decide; rfl) | (apply U.bin; rfl; trivial; rfl; trivial; rfl; rfl) | (apply U.len; rfl; trivial; rfl) | (apply U.loadS; rfl; rfl; trivial; rfl; rfl; rfl; rfl; rfl) | (apply U.storeS; rfl; rfl; rfl; rfl; rfl; rfl; rfl; rfl) | refine Tri.skip ?_ | refine Tri.block ?_ | refine Tri.exit ?_ | refine Tri.ret ?_ | (apply U.build; rfl; rfl; rfl; rfl; rfl) | (refine Tri.cond rfl (fun h => ?_) (fun h => ?_) <;> (try simp at h) <;> (try contradiction)) | fail)
      · have hlt : k + 1 < t.l.length := by omega
        have hget := get_ty hlt
        have hit := digits_p (k + 1) (by omega)
        refine Tri.regD [5, 7] mixed (by kernel_rfl) ?_
        repeat' (first | refine TriL.nil ?_ | exact ⟨rfl, rfl, rfl⟩ | (apply D.v; rfl; rfl; rfl) | (apply U.moveT; rfl; trivial; rfl) | (apply U.load; rfl; rfl; trivial; rfl; rfl; rfl) | (apply U.fld; rfl; trivial; rfl; infer_instance; decide; rfl) | refine U.call1 rfl rfl (by assumption) rfl ?_ | fail)
        · (apply U.litT; rfl; rfl; rfl; rfl; rfl; rfl; rfl; rfl)
          repeat' (first | refine TriL.nil ?_ | exact ⟨rfl, rfl, rfl⟩ | fail)
        skip
        (apply D.e; rfl; rfl; rfl; rotate_left)
        · refine U.appOwn rfl rfl (by simp [digs]) (by simp [digs]) (SrcE.t rfl rfl) (by simp; omega) (by simp; omega) rfl ?_
          repeat' (first | refine TriL.nil ?_ | exact ⟨rfl, rfl, rfl⟩ | fail)
        repeat' (first | refine TriL.nil ?_ | exact ⟨rfl, rfl, rfl⟩ | (apply D.v; rfl; rfl; rfl) | (apply U.fld; rfl; trivial; rfl; infer_instance; decide; rfl) | fail)
        (apply D.s; rfl; rfl; rfl; rotate_left)
        repeat' (first | refine TriL.nil ?_ | refine D.nil ?_ | (apply U.store; rfl; rfl; rfl; rfl; rfl; rfl; rfl) | exact ⟨rfl, rfl⟩ | fail)
        · refine Tri.regD [8, 10] mixed (by kernel_rfl) ?_
          repeat' (first | refine TriL.nil ?_ | exact ⟨rfl, rfl, rfl⟩ | (apply D.v; rfl; rfl; rfl) | (apply U.moveT; rfl; trivial; rfl) | (apply U.load; rfl; rfl; trivial; rfl; rfl; rfl) | (apply U.fld; rfl; trivial; rfl; infer_instance; decide; rfl) | (apply U.loadES; rfl; rfl; trivial; rfl; rfl; rfl) | (apply U.idx; rfl; trivial; rfl; trivial; exact fun _ => (by omega); exact fun _ => (by assumption); exact fun _ => rfl; rfl) | fail)
          · (apply U.litT; rfl; rfl; rfl; rfl; rfl; rfl; rfl; rfl)
            repeat' (first | refine TriL.nil ?_ | exact ⟨rfl, rfl, rfl⟩ | fail)
          skip
          (apply D.e; rfl; rfl; rfl; rotate_left)
          · refine U.appOwn rfl rfl (by simp [encTys_length]; omega) (by simp [encTys_length]; omega) (SrcE.t rfl rfl) (by simp; omega) (by simp; omega) rfl ?_
            repeat' (first | refine TriL.nil ?_ | exact ⟨rfl, rfl, rfl⟩ | fail)
          repeat' (first | refine TriL.nil ?_ | exact ⟨rfl, rfl, rfl⟩ | (apply D.v; rfl; rfl; rfl) | (apply U.fld; rfl; trivial; rfl; infer_instance; decide; rfl) | fail)
          (apply D.s; rfl; rfl; rfl; rotate_left)
          repeat' (first | refine Tri.reg ?_ | refine TriL.nil ?_ | refine D.nil ?_ | (apply U.moveT; rfl; trivial; rfl) | (apply U.assignT; rfl; trivial; rfl) | (apply U.add; rfl; trivial; rfl; trivial; exact fun _ => wrap_i64 (by omega) (by omega); rfl) | (apply U.store; rfl; rfl; rfl; rfl; rfl; rfl; rfl) | exact ⟨rfl, rfl⟩ | fail)
          · refine ⟨k + 1 + 1, hlt, by omega, ?_⟩
            refine Less.ren (fun b => if b = 3 then 5 else if b = 4 then 6 else b) rfl rfl ⟨rfl, rfl, rfl, rfl, trivial⟩ ⟨rfl, rfl, rfl, ?_, ?_, trivial⟩ rfl rfl rfl
            · rw [show (digs (k + 1 + 1)).map tStr = (digs (k + 1)).map tStr ++ [tStr (digT (k + 1))] from (by simp [digs, List.range_succ])]; rfl
            · rw [List.take_succ_eq_append_getElem hlt, encTys_app, encTys, encTys, encTy_eta]; rfl
          all_goals first | (exact fun _ => .of ⟨rfl, rfl, trivial⟩) | (exact fun _ => .nil) | (intro h_; cases h_)
        all_goals first | (exact fun _ => .of ⟨rfl, rfl, trivial⟩) | (exact fun _ => .nil) | (intro h_; cases h_)
      · exfalso; omega
      · exfalso; omega
      · exfalso; omega
      · -- the end
        have hz : t.l.length = k + 1 := by omega
        refine ComesC.of rfl rfl (ls' := [_, _, _, _]) rfl rfl (.tree rfl (.froz rfl ?_ (.froz rfl ?_ (.tree rfl .nil)))) ⟨[_, _, _, _], rfl, ?_⟩
        · simp [digs]
        · simp [encTys_length]; omega
        · rw [plainT, if_pos (by assumption)]
          have : t.l.isEmpty = false := by cases hl : t.l <;> simp_all
          rw [this, encTy, hz]
          simp [digs, List.take_of_length_le, hz]
          exact ⟨rfl, List.take_of_length_le (by rw [encTys_length]; omega), rfl⟩
  · -- an enum
    have h16 := h
    refine Tri.loopL (fun i => match i with
        | 0 => ⟨[(5, .t (tInt ((0 : Nat) : Int))), (3, .ptr 2 0), (2, .ptr 1 0), (1, .ptr 0 0)], Tryd.f12.ntmps, [(2, .obj [.t (tInt 15), .t (.sl t.nn (t.names.map tStr)), .t (.sl true []), .t (tInt 0)]), (1, .obj [.t (tInt 0), .t (.sl true []), .t (.sl true []), .t (tInt 0)]), (0, .obj [.t (.v (.int .i64 t.kind)), .t (.sl t.nn (t.names.map tStr)), .t (.sl t.nl (encTys t.l)), .t (.v (.int .i64 t.r))])], 0, 3⟩
        | k + 1 => ⟨[(5, .t (tInt ((k + 1 : Nat) : Int))), (3, .ptr 2 0), (2, .ptr 1 0), (1, .ptr 0 0)], Tryd.f12.ntmps, [(2, .obj [.t (tInt 15), .t (.sl t.nn (t.names.map tStr)), .ref 3 4 0 (k + 1) (k + 1), .t (tInt 0)]), (1, .obj [.t (tInt 0), .t (.sl true []), .t (.sl true []), .t (tInt 0)]), (0, .obj [.t (.v (.int .i64 t.kind)), .t (.sl t.nn (t.names.map tStr)), .t (.sl t.nl (encTys t.l)), .t (.v (.int .i64 t.r))]), (3, .row 4 (encTys (List.replicate (k + 1) ty0)) false)], 0, 4⟩)
      (fun i => i ≤ t.names.length) (fun i => t.names.length - i) 0 (Nat.zero_le _) ?_ ?_
    · exact Sub.less (Sub.of rfl rfl ⟨rfl, rfl, rfl, rfl, trivial⟩ ⟨rfl, rfl, rfl, trivial⟩)
    rintro (_ | k) hi
    · repeat' (first | refine Tri.seq ?_ | refine Tri.reg ?_ | refine TriL.nil ?_ | (apply U.moveT; rfl; trivial; rfl) | (apply U.load; rfl; rfl; trivial; rfl; rfl; rfl) | (apply U.fld; rfl; trivial; rfl; infer_instance; decide; rfl) | (apply U.bin; rfl; trivial; rfl; trivial; rfl; rfl) | (apply U.len; rfl; trivial; rfl) | (apply U.loadS; rfl; rfl; trivial; rfl; rfl; rfl; rfl; rfl) | (apply U.storeS; rfl; rfl; rfl; rfl; rfl; rfl; rfl; rfl) | refine Tri.skip ?_ | refine Tri.block ?_ | refine Tri.exit ?_ | refine Tri.ret ?_ | (apply U.build; rfl; rfl; rfl; rfl; rfl) | (refine Tri.cond rfl (fun h => ?_) (fun h => ?_) <;> (try simp at h) <;> (try contradiction)) | fail)
      · (apply U.litT; rfl; rfl; rfl; rfl; rfl; rfl; rfl; rfl)
        skip
        refine U.appNil rfl (SrcE.t rfl rfl) Nat.zero_lt_one (Nat.le_of_ble_eq_true rfl) (Nat.le_of_ble_eq_true rfl) rfl ?_
        repeat' (first | refine Tri.reg ?_ | refine TriL.nil ?_ | (apply U.moveT; rfl; trivial; rfl) | (apply U.assignT; rfl; trivial; rfl) | (apply U.fld; rfl; trivial; rfl; infer_instance; decide; rfl) | (apply U.add; rfl; trivial; rfl; trivial; exact fun _ => wrap_i64 (by omega) (by omega); rfl) | (apply U.store; rfl; rfl; rfl; rfl; rfl; rfl; rfl) | fail)
        exact ⟨0 + 1, by omega, by omega, Less.ren (fun b => b) rfl rfl ⟨rfl, rfl, rfl, rfl, trivial⟩ ⟨rfl, rfl, rfl, rfl, trivial⟩ rfl rfl rfl⟩
      · exfalso; omega
      · exfalso; omega
      · refine ComesC.tree rfl rfl rfl rfl ?_
        have hz : t.names = [] := by first | assumption | exact List.length_eq_zero_iff.1 (by omega)
        rw [plainT, if_neg (by omega), if_pos (by assumption), hz]; rfl
    · repeat' (first | refine Tri.seq ?_ | refine Tri.reg ?_ | refine TriL.nil ?_ | (apply U.moveT; rfl; trivial; rfl) | (apply U.load; rfl; rfl; trivial; rfl; rfl; rfl) | (apply U.fld; rfl; trivial; rfl; infer_instance; decide; rfl) | (apply U.bin; rfl; trivial; rfl; trivial; rfl; rfl) | (apply U.len; rfl; trivial; rfl) | (apply U.loadS; rfl; rfl; trivial; rfl; rfl; rfl; rfl; rfl) | (apply U.storeS; rfl; rfl; rfl; rfl; rfl; rfl; rfl; rfl) | refine Tri.skip ?_ | refine Tri.block ?_ | refine Tri.exit ?_ | refine Tri.ret ?_ | (apply U.build; rfl; rfl; rfl; rfl; rfl) | (refine Tri.cond rfl (fun h => ?_) (fun h => ?_) <;> (try simp at h) <;> (try contradiction)) | fail)
      · (apply U.litT; rfl; rfl; rfl; rfl; rfl; rfl; rfl; rfl)
        skip
        refine U.appOwn rfl rfl (by simp [encTys_length]) (by simp [encTys_length]) (SrcE.t rfl rfl) (by simp; omega) (by simp; omega) rfl ?_
        repeat' (first | refine Tri.reg ?_ | refine TriL.nil ?_ | (apply U.moveT; rfl; trivial; rfl) | (apply U.assignT; rfl; trivial; rfl) | (apply U.fld; rfl; trivial; rfl; infer_instance; decide; rfl) | (apply U.add; rfl; trivial; rfl; trivial; exact fun _ => wrap_i64 (by omega) (by omega); rfl) | (apply U.store; rfl; rfl; rfl; rfl; rfl; rfl; rfl) | fail)
        refine ⟨k + 1 + 1, by omega, by omega, ?_⟩
        refine Less.ren (fun b => if b = 3 then 4 else b) rfl rfl ⟨rfl, rfl, rfl, rfl, trivial⟩ ⟨rfl, rfl, rfl, ?_, trivial⟩ rfl rfl rfl
        rw [List.replicate_succ' (n := k + 1), encTys_app, encTys, encTys]; rfl
      · exfalso; omega
      · exfalso; omega
      · have hz : t.names.length = k + 1 := by omega
        refine ComesC.of rfl rfl (ls' := [_, _, _, _]) rfl rfl (.tree rfl (.tree rfl (.froz rfl ?_ (.tree rfl .nil)))) ⟨[_, _, _, _], rfl, ?_⟩
        · simp [encTys_length]
        · rw [plainT, if_neg (by omega), if_pos (by assumption), encTy, hz]
          have : t.names.isEmpty = false := by cases hl : t.names <;> simp_all
          rw [this]
          simp
          exact ⟨rfl, List.take_of_length_le (by rw [encTys_length]; simp), rfl⟩
  · -- an option
    (apply U.litT; rfl; rfl; rfl; rfl; rfl; rfl; rfl; rfl)
    repeat' (first | (apply U.build; rfl; rfl; rfl; rfl; rfl) | fail)
    (apply U.lit; rfl; rfl; rfl; rfl; rfl; rfl; rfl; rfl)
    repeat' (first | refine Tri.reg ?_ | refine TriL.nil ?_ | (apply U.load; rfl; rfl; trivial; rfl; rfl; rfl) | (apply U.fld; rfl; trivial; rfl; infer_instance; decide; rfl) | (apply U.storeS; rfl; rfl; rfl; rfl; rfl; rfl; rfl; rfl) | (apply U.build; rfl; rfl; rfl; rfl; rfl) | fail)
    refine U.appOwn rfl rfl rfl rfl (SrcE.t rfl (leaves_all _)) ?_ ?_ rfl ?_
    · skip
      omega
    · omega
    repeat' (first | refine Tri.seq ?_ | refine Tri.reg ?_ | refine TriL.nil ?_ | (apply U.load; rfl; rfl; trivial; rfl; rfl; rfl) | (apply U.fld; rfl; trivial; rfl; infer_instance; decide; rfl) | (apply U.bin; rfl; trivial; rfl; trivial; rfl; rfl) | (apply U.loadS; rfl; rfl; trivial; rfl; rfl; rfl; rfl; rfl) | (apply U.store; rfl; rfl; rfl; rfl; rfl; rfl; rfl) | (apply U.storeS; rfl; rfl; rfl; rfl; rfl; rfl; rfl; rfl) | refine Tri.skip ?_ | refine Tri.ret ?_ | (refine Tri.cond rfl (fun h => ?_) (fun h => ?_) <;> (try simp at h) <;> (try contradiction)) | fail)
    · exfalso; omega
    · refine ComesC.of rfl rfl (ls' := [_, _, _, _]) rfl rfl (.tree rfl (.tree rfl (.froz rfl ?_ (.tree rfl .nil)))) ⟨[_, _, _, _], rfl, ?_⟩
      · simp; omega
      · rw [plainT, if_neg (by omega), if_neg (by omega), if_pos (by assumption)]
        simp [encTy, encTys, tStr, nmNone, nmSome, ty0]
        exact List.take_of_length_le (by simp; omega)
  · (apply U.litT; rfl; rfl; rfl; rfl; rfl; rfl; rfl; rfl)
    repeat' (first | refine Tri.seq ?_ | refine Tri.reg ?_ | refine TriL.nil ?_ | (apply U.load; rfl; rfl; trivial; rfl; rfl; rfl) | (apply U.fld; rfl; trivial; rfl; infer_instance; decide; rfl) | (apply U.loadS; rfl; rfl; trivial; rfl; rfl; rfl; rfl; rfl) | (apply U.storeS; rfl; rfl; rfl; rfl; rfl; rfl; rfl; rfl) | refine Tri.ret ?_ | (apply U.build; rfl; rfl; rfl; rfl; rfl) | fail)
    refine ComesC.tree rfl rfl rfl rfl ?_
    rw [plainT, if_neg (by omega), if_neg (by omega), if_neg (by omega), if_pos h]; rfl
  · refine ComesC.tree rfl rfl rfl rfl ?_
    rw [plainT, if_neg (by omega), if_neg (by omega), if_neg (by omega), if_neg h, encTy_eta t]
end Go.Proofs.YtaplmmhkpljmkaaDoor

/- Layer 13: the reference's Row, Cores. -/
namespace Go.Proofs.YtaplmmhkpljmkaaDoor
open Go E
set_option maxRecDepth 100000
set_option maxHeartbeats 4000000
set_option linter.unusedVariables false
set_option linter.unusedSimpArgs false
attribute [local irreducible] Tri TriL TriO PO VO E.Pure DOb
theorem row_core (l : List Ty) (n : Bool) (hb : l.length ≤ big) (hel : ∀ (i : Nat) (h : i < l.length), E.Pure Tryd.prog 14 [agTy l[i]] (.one (.t (iT (flN l[i]))))) (hrow : (rowN l).length ≤ 1000000) :
    E.Pure Tryd.prog 29 [.sl n (encTys l)] (.one (.t (iT (rowN l)))) := by
  unfold big at hb
  have hlen := encTys_length l
  refine Pure.of1 Tryd.func29 rfl rfl (Nat.le_of_ble_eq_true rfl) rfl ?_
  repeat' (first | refine Tri.seq ?_ | refine Tri.reg ?_ | refine TriL.nil ?_ | (apply U.assignT; rfl; trivial; rfl) | refine Tri.block ?_ | fail)
  refine Tri.loopL (α := Nat × List Int) (fun a => match a.2 with
        | [] => ⟨[(4, .t (tInt a.1)), (3, .t (.sl true [])), (0, .t (.sl n (encTys l)))], Tryd.f29.ntmps, [], 0, 0⟩
        | y :: ys => ⟨[(4, .t (tInt a.1)), (3, .ref 0 1 0 (ys.length + 1) (ys.length + 1)), (0, .t (.sl n (encTys l)))], Tryd.f29.ntmps, [(0, .row 1 ((y :: ys).map tInt) false)], 0, 1⟩)
      (fun a => a.1 ≤ l.length ∧ rowN l = a.2 ++ rowN (l.drop a.1)) (fun a => l.length - a.1) (0, []) ?_ ?_ ?_
  · exact ⟨Nat.zero_le _, rfl⟩
  · exact Sub.less (Sub.of rfl rfl ⟨rfl, rfl, rfl, trivial⟩ trivial)
  · rintro ⟨i, _ | ⟨y, ys⟩⟩ ⟨hi, hr⟩
    · dsimp only at hi hr ⊢
      repeat' (first | refine Tri.seq ?_ | refine Tri.reg ?_ | refine TriL.nil ?_ | (apply U.moveT; rfl; trivial; rfl) | (apply U.assignT; rfl; trivial; rfl) | (apply U.bin; rfl; trivial; rfl; trivial; rfl; rfl) | (apply U.len; rfl; trivial; rfl) | refine Tri.skip ?_ | refine Tri.block ?_ | refine Tri.exit ?_ | refine Tri.ret ?_ | (refine Tri.cond rfl (fun h => ?_) (fun h => ?_) <;> (try simp at h) <;> (try contradiction)) | fail)
      · have hlt : i < l.length := by omega
        have hget := get_ty hlt
        have hel := hel i hlt
        have hd := List.drop_eq_getElem_cons hlt
        rw [hd, rowN] at hr
        have hbd := congrArg List.length hr
        simp only [List.length_append, List.length_cons, List.length_nil] at hbd
        cases hy : flN l[i] with
        | nil =>
          rw [hy] at hel hr
          repeat' (first | (apply U.loadES; rfl; rfl; trivial; rfl; rfl; rfl) | (apply U.idx; rfl; trivial; rfl; trivial; exact fun _ => (by omega); exact fun _ => (by assumption); exact fun _ => rfl; rfl) | refine U.call1 rfl rfl (by assumption) rfl ?_ | fail)
          refine U.appNil0 rfl (SrcE.t (n := true) rfl rfl) rfl ?_
          repeat' (first | refine Tri.reg ?_ | refine TriL.nil ?_ | (apply U.moveT; rfl; trivial; rfl) | (apply U.assignT; rfl; trivial; rfl) | (apply U.add; rfl; trivial; rfl; trivial; exact fun _ => wrap_i64 (by omega) (by omega); rfl) | fail)
          exact ⟨(i + 1, []), ⟨hlt, hr⟩, by dsimp only; omega, Sub.less (Sub.ofn (by decide) rfl ⟨rfl, rfl, rfl, trivial⟩ trivial rfl rfl)⟩
        | cons z zs =>
          rw [hy] at hel hr hbd
          repeat' (first | (apply U.loadES; rfl; rfl; trivial; rfl; rfl; rfl) | (apply U.idx; rfl; trivial; rfl; trivial; exact fun _ => (by omega); exact fun _ => (by assumption); exact fun _ => rfl; rfl) | refine U.call1 rfl rfl (by assumption) rfl ?_ | fail)
          refine U.appNil rfl (SrcE.t (n := false) rfl (leaves_int (z :: zs))) (by simp) (by simp at hbd ⊢; omega) (by simp at hbd ⊢; omega) rfl ?_
          repeat' (first | refine Tri.reg ?_ | refine TriL.nil ?_ | (apply U.moveT; rfl; trivial; rfl) | (apply U.assignT; rfl; trivial; rfl) | (apply U.assignR; rfl; trivial; rfl) | (apply U.add; rfl; trivial; rfl; trivial; exact fun _ => wrap_i64 (by omega) (by omega); rfl) | fail)
          refine ⟨(i + 1, z :: zs), ⟨hlt, hr⟩, by dsimp only; omega, Less.ren (fun b => if b = 0 then 0 else b) rfl rfl ⟨rfl, ?_, rfl, trivial⟩ ⟨rfl, trivial⟩ rfl rfl rfl⟩
          refine congrArg some ?_
          show PV.ref 0 1 0 _ _ = PV.ref 0 1 0 _ _
          simp
      · refine Comes1.ret rfl ?_
        have : i = l.length := by omega
        subst this
        rw [List.drop_length, rowN] at hr
        rw [hr]; rfl
    · dsimp only at hi hr ⊢
      repeat' (first | refine Tri.seq ?_ | refine Tri.reg ?_ | refine TriL.nil ?_ | (apply U.moveT; rfl; trivial; rfl) | (apply U.moveR; rfl; trivial; rfl) | (apply U.assignR; rfl; trivial; rfl) | (apply U.bin; rfl; trivial; rfl; trivial; rfl; rfl) | (apply U.len; rfl; trivial; rfl) | refine Tri.skip ?_ | refine Tri.block ?_ | refine Tri.exit ?_ | refine Tri.ret ?_ | (refine Tri.cond rfl (fun h => ?_) (fun h => ?_) <;> (try simp at h) <;> (try contradiction)) | fail)
      · have hlt : i < l.length := by omega
        have hget := get_ty hlt
        have hel := hel i hlt
        have hd := List.drop_eq_getElem_cons hlt
        rw [hd, rowN] at hr
        have hbd := congrArg List.length hr
        simp only [List.length_append, List.length_cons] at hbd
        repeat' (first | (apply U.loadES; rfl; rfl; trivial; rfl; rfl; rfl) | (apply U.idx; rfl; trivial; rfl; trivial; exact fun _ => (by omega); exact fun _ => (by assumption); exact fun _ => rfl; rfl) | refine U.call1 rfl rfl (by assumption) rfl ?_ | fail)
        refine U.appOwn rfl rfl (by simp) (by simp) (SrcE.t rfl (leaves_int _)) (by simp; omega) (by simp; omega) rfl ?_
        repeat' (first | refine Tri.reg ?_ | refine TriL.nil ?_ | (apply U.moveT; rfl; trivial; rfl) | (apply U.assignT; rfl; trivial; rfl) | (apply U.assignR; rfl; trivial; rfl) | (apply U.add; rfl; trivial; rfl; trivial; exact fun _ => wrap_i64 (by omega) (by omega); rfl) | fail)
        refine ⟨(i + 1, y :: (ys ++ flN l[i])), ⟨hlt, by rw [hr]; simp⟩, by dsimp only; omega, Less.ren (fun b => if b = 0 then 1 else b) rfl rfl ⟨rfl, ?_, rfl, trivial⟩ ⟨?_, trivial⟩ rfl rfl rfl⟩
        · refine congrArg some ?_
          show PV.ref 1 1 0 _ _ = PV.ref 1 1 0 _ _
          simp; omega
        · refine congrArg some ?_
          show Blk.row 1 _ false = Blk.row 1 _ false
          simp
      · refine Comes1.retF rfl rfl (by simp) ?_
        have : i = l.length := by omega
        subst this
        rw [List.drop_length, rowN] at hr
        rw [hr]
        simp [iT]
        exact List.take_of_length_le (by simp)
theorem cores_core (t : Ty) (hl : t.l.length ≤ big) (h16 : t.kind = 16 → t.l = []) (hk : 0 ≤ t.kind)
    (hel : ∀ (i : Nat) (h : i < t.l.length), E.Pure Tryd.prog 14 [agTy t.l[i]] (.one (.t (iT (flN t.l[i]))))) (hrow : (rowN t.l).length ≤ 1000000) (hjs : (joinsN [] t.l).length ≤ 1000000) :
    E.Pure Tryd.prog 14 [encTy t] (.one (.t (iT (flN t)))) := by
  have hro := row_core t.l t.nl hl hel hrow
  unfold big at hl
  have hlen := encTys_length t.l
  refine Pure.of1 Tryd.func14 rfl rfl (Nat.le_of_ble_eq_true rfl) rfl ?_
  rw [encTy_eta t]
  repeat' (first | refine Tri.seq ?_ | refine Tri.reg ?_ | refine TriL.nil ?_ | (apply U.moveT; rfl; trivial; rfl) | (apply U.assignT; rfl; trivial; rfl) | (apply U.load; rfl; rfl; trivial; rfl; rfl; rfl) | (apply U.fld; rfl; trivial; rfl; infer_instance; decide; rfl) | (apply U.bin; rfl; trivial; rfl; trivial; rfl; rfl) | (apply U.pickb; rfl; trivial; rfl; (first | trivial | exact id | exact And.right | exact gvA | exact gvB | exact And.left | exact gvN | exact gvP2 | exact gvN2 | exact gvLA); rfl; (first | trivial | exact id | exact And.right | exact gvA | exact gvB | exact And.left | exact gvN | exact gvP2 | exact gvN2 | exact gvLA); rfl) | (apply U.boxA; rfl; rfl) | (apply G.moveT; rfl; (first | trivial | exact id | exact And.right | exact gvA | exact gvB | exact And.left | exact gvN | exact gvP2 | exact gvN2 | exact gvLA); rfl; rfl; rfl) | (apply G.bin; rfl; (first | trivial | exact id | exact And.right | exact gvA | exact gvB | exact And.left | exact gvN | exact gvP2 | exact gvN2 | exact gvLA); rfl; (first | trivial | exact id | exact And.right | exact gvA | exact gvB | exact And.left | exact gvN | exact gvP2 | exact gvN2 | exact gvLA); rfl; rfl; rfl; rfl) | refine U.call1 rfl rfl (by assumption) rfl ?_ | refine Tri.skip ?_ | refine Tri.ret ?_ | (refine Tri.cond rfl (fun h => ?_) (fun h => ?_) <;> (try simp at h) <;> (try contradiction)) | fail)
  · refine Comes1.ret rfl ?_
    rw [flN_eq, show t.kind = 0 by assumption]; rfl
  · (apply U.litT; rfl; rfl; rfl; rfl; rfl; rfl; rfl; rfl)
    repeat' (first | refine TriL.nil ?_ | (apply U.assignT; rfl; trivial; rfl) | refine Tri.ret ?_ | fail)
    refine Comes1.ret rfl ?_
    rw [flN_eq, flK, if_neg (by omega), if_pos (by assumption)]; rfl
  · (apply U.litT; rfl; rfl; rfl; rfl; rfl; rfl; rfl; rfl)
    repeat' (first | refine TriL.nil ?_ | (apply U.assignT; rfl; trivial; rfl) | refine Tri.ret ?_ | fail)
    refine Comes1.ret rfl ?_
    rw [flN_eq, flK, if_neg (by omega), if_neg (by omega), if_pos (by assumption)]; rfl
  · refine Comes1.ret rfl ?_
    rw [flN_eq, flK, if_neg (by omega), if_neg (by omega), if_neg (by omega), if_pos (by assumption)]
  · (apply U.lit; rfl; rfl; rfl; rfl; rfl; rfl; rfl; rfl)
    repeat' (first | refine Tri.seq ?_ | refine Tri.reg ?_ | refine TriL.nil ?_ | (apply U.moveT; rfl; trivial; rfl) | (apply U.assignT; rfl; trivial; rfl) | (apply U.moveR; rfl; trivial; rfl) | (apply U.assignR; rfl; trivial; rfl) | (apply U.bin; rfl; trivial; rfl; trivial; rfl; rfl) | (apply U.pickb; rfl; trivial; rfl; (first | trivial | exact id | exact And.right | exact gvA | exact gvB | exact And.left | exact gvN | exact gvP2 | exact gvN2 | exact gvLA); rfl; (first | trivial | exact id | exact And.right | exact gvA | exact gvB | exact And.left | exact gvN | exact gvP2 | exact gvN2 | exact gvLA); rfl) | (apply G.moveT; rfl; (first | trivial | exact id | exact And.right | exact gvA | exact gvB | exact And.left | exact gvN | exact gvP2 | exact gvN2 | exact gvLA); rfl; rfl; rfl) | (apply G.bin; rfl; (first | trivial | exact id | exact And.right | exact gvA | exact gvB | exact And.left | exact gvN | exact gvP2 | exact gvN2 | exact gvLA); rfl; (first | trivial | exact id | exact And.right | exact gvA | exact gvB | exact And.left | exact gvN | exact gvP2 | exact gvN2 | exact gvLA); rfl; rfl; rfl; rfl) | refine Tri.skip ?_ | refine Tri.block ?_ | refine Tri.ret ?_ | (refine Tri.cond rfl (fun h => ?_) (fun h => ?_) <;> (try simp at h) <;> (try contradiction)) | fail)
    · refine Comes1.retF rfl rfl (by simp) ?_
      rw [flN_eq, flK, if_neg (by omega), if_neg (by omega), if_neg (by omega), if_neg (by omega), if_neg (by omega)]; rfl
    have hfl : flN t = 127 :: joinsN [] t.l := by
      rw [flN_eq, flK, if_neg (by omega), if_neg (by omega), if_neg (by omega), if_neg (by omega)]
      by_cases k : t.kind = 16
      · rw [if_neg (by omega), h16 k]; rfl
      · rw [if_pos (by omega)]
    rw [hfl]
    refine Tri.loopL (α := Nat × List Int) (fun a => ⟨[(5, .t (tInt a.1)), (4, .ref 1 1 0 (a.2.length + 1) (a.2.length + 1)), (1, .ptr 0 0)], Tryd.f14.ntmps, [(1, .row 1 ((127 :: a.2).map tInt) false), (0, .obj [.t (.v (.int .i64 t.kind)), .t (.sl t.nn (t.names.map tStr)), .t (.sl t.nl (encTys t.l)), .t (.v (.int .i64 t.r))])], 0, 2⟩)
      (fun a => a.1 ≤ t.l.length ∧ joinsN [] t.l = joinsN a.2 (t.l.drop a.1)) (fun a => t.l.length - a.1) (0, []) ?_ ?_ ?_
    · exact ⟨Nat.zero_le _, rfl⟩
    · exact Sub.less (Sub.of rfl rfl ⟨rfl, rfl, rfl, trivial⟩ ⟨rfl, rfl, trivial⟩)
    · rintro ⟨i, m⟩ ⟨hi, hr⟩
      dsimp only at hi hr ⊢
      repeat' (first | refine Tri.seq ?_ | refine Tri.reg ?_ | refine TriL.nil ?_ | (apply U.moveT; rfl; trivial; rfl) | (apply U.moveR; rfl; trivial; rfl) | (apply U.assignR; rfl; trivial; rfl) | (apply U.load; rfl; rfl; trivial; rfl; rfl; rfl) | (apply U.fld; rfl; trivial; rfl; infer_instance; decide; rfl) | (apply U.bin; rfl; trivial; rfl; trivial; rfl; rfl) | (apply U.len; rfl; trivial; rfl) | refine Tri.skip ?_ | refine Tri.block ?_ | refine Tri.exit ?_ | refine Tri.ret ?_ | (refine Tri.cond rfl (fun h => ?_) (fun h => ?_) <;> (try simp at h) <;> (try contradiction)) | fail)
      · have hlt : i < t.l.length := by omega
        have hget := get_ty hlt
        have hel := hel i hlt
        have hd := List.drop_eq_getElem_cons hlt
        rw [hd, joinsN] at hr
        generalize hys : flN t.l[i] = ys at *
        have hm := joinsN_ge (zipJ m ys) (t.l.drop (i + 1))
        rw [← hr] at hm
        have hz := zipJ_len m ys
        have hlen3 : (ys.map tInt).length = ys.length := by simp
        repeat' (first | refine Tri.seq ?_ | refine Tri.reg ?_ | refine TriL.nil ?_ | (apply U.assignT; rfl; trivial; rfl) | (apply U.loadES; rfl; rfl; trivial; rfl; rfl; rfl) | (apply U.idx; rfl; trivial; rfl; trivial; exact fun _ => (by omega); exact fun _ => (by assumption); exact fun _ => rfl; rfl) | refine U.call1 rfl rfl (by assumption) rfl ?_ | refine Tri.block ?_ | fail)
        refine Tri.loopL (α := Nat × List Int × List Int) (fun a => ⟨[(7, .t (tInt a.1)), (6, .t (iT ys)), (5, .t (tInt i)), (4, .ref 1 1 0 (a.2.1.length + a.2.2.length + 1) (a.2.1.length + a.2.2.length + 1)), (1, .ptr 0 0)], Tryd.f14.ntmps, [(1, .row 1 ((127 :: (a.2.1 ++ a.2.2)).map tInt) false), (0, .obj [.t (.v (.int .i64 t.kind)), .t (.sl t.nn (t.names.map tStr)), .t (.sl t.nl (encTys t.l)), .t (.v (.int .i64 t.r))])], 0, 2⟩)
          (fun a => a.1 ≤ ys.length ∧ a.2.1.length = a.1 ∧ zipJ m ys = a.2.1 ++ zipJ a.2.2 (ys.drop a.1)) (fun a => ys.length - a.1) (0, [], m) ?_ ?_ ?_
        · exact ⟨Nat.zero_le _, rfl, rfl⟩
        · refine Sub.less (Sub.ofn (by decide) rfl ⟨rfl, rfl, rfl, ?_, rfl, trivial⟩ ⟨rfl, rfl, trivial⟩ rfl rfl)
          · refine congrArg some ?_
            show PV.ref 1 1 0 _ _ = PV.ref 1 1 0 _ _
            simp
        · rintro ⟨j, pre, rest⟩ ⟨hj, hpl, hq⟩
          dsimp only at hj hpl hq ⊢
          have hql := congrArg List.length hq
          rw [List.length_append, zipJ_len] at hql
          have hout : ∀ rs : List Int, ys.length ≤ j → zipJ m ys = pre ++ zipJ rs (ys.drop j) → zipJ m ys = pre ++ rs := fun rs h1 h2 => by
            rw [List.drop_eq_nil_of_le (by omega), zipJ_nil] at h2; exact h2
          rcases rest with _ | ⟨r, rest⟩
          · repeat' (first | refine Tri.seq ?_ | refine Tri.reg ?_ | refine TriL.nil ?_ | (apply U.moveT; rfl; trivial; rfl) | (apply U.assignT; rfl; trivial; rfl) | (apply U.moveR; rfl; trivial; rfl) | (apply U.add; rfl; trivial; rfl; trivial; exact fun _ => wrap_i64 (by omega) (by omega); rfl) | (apply U.bin; rfl; trivial; rfl; trivial; rfl; rfl) | (apply U.len; rfl; trivial; rfl) | (apply U.lenR; rfl; trivial; rfl) | refine Tri.skip ?_ | refine Tri.block ?_ | refine Tri.exit ?_ | (refine Tri.cond rfl (fun h => ?_) (fun h => ?_) <;> (try simp at h) <;> (try contradiction)) | fail)
            · have hjl : j < ys.length := by omega
              have hgi : (ys.map tInt)[((j : Nat) : Int).toNat]? = some (tInt ys[j]) := by simp [hjl]
              have hdj := List.drop_eq_getElem_cons hjl
              · repeat' (first | (apply U.loadE; rfl; rfl; trivial; rfl; rfl) | (apply U.idx; rfl; trivial; rfl; trivial; exact fun _ => (by omega); exact fun _ => (by assumption); exact fun _ => rfl; rfl) | fail)
                (apply U.litT; rfl; rfl; rfl; rfl; rfl; rfl; rfl; rfl)
                skip
                refine U.appOwn rfl rfl (by simp) (by simp) (SrcE.t rfl (leaves_int [ys[j]])) (by simp; omega) (by simp; omega) rfl ?_
                repeat' (first | refine Tri.reg ?_ | refine TriL.nil ?_ | (apply U.moveT; rfl; trivial; rfl) | (apply U.assignT; rfl; trivial; rfl) | (apply U.assignR; rfl; trivial; rfl) | (apply U.add; rfl; trivial; rfl; trivial; exact fun _ => wrap_i64 (by omega) (by omega); rfl) | fail)
                refine ⟨(j + 1, pre ++ [ys[j]], []), ⟨hjl, by simp [hpl], by rw [hq, hdj]; simp [zipJ]⟩, by dsimp only; omega, Less.ren (fun b => if b = 1 then 2 else b) rfl rfl ⟨rfl, rfl, rfl, ?_, rfl, trivial⟩ ⟨?_, rfl, trivial⟩ rfl rfl rfl⟩
                · refine congrArg some ?_
                  show PV.ref 2 1 0 _ _ = PV.ref 2 1 0 _ _
                  simp
                · refine congrArg some ?_
                  show Blk.row 1 _ false = Blk.row 1 _ false
                  simp
            · exfalso; omega
            · refine ⟨(i + 1, pre), ⟨hlt, ?_⟩, by dsimp only; omega, Sub.less (Sub.of rfl rfl ⟨rfl, rfl, rfl, trivial⟩ ⟨?_, rfl, trivial⟩)⟩
              · rw [hr, hout [] (by omega) hq, List.append_nil]
              · refine congrArg some ?_
                show Blk.row 1 _ false = Blk.row 1 _ false
                simp
          · repeat' (first | refine Tri.seq ?_ | refine Tri.reg ?_ | refine TriL.nil ?_ | (apply U.moveT; rfl; trivial; rfl) | (apply U.assignT; rfl; trivial; rfl) | (apply U.moveR; rfl; trivial; rfl) | (apply U.add; rfl; trivial; rfl; trivial; exact fun _ => wrap_i64 (by omega) (by omega); rfl) | (apply U.bin; rfl; trivial; rfl; trivial; rfl; rfl) | (apply U.len; rfl; trivial; rfl) | (apply U.lenR; rfl; trivial; rfl) | refine Tri.skip ?_ | refine Tri.block ?_ | refine Tri.exit ?_ | (refine Tri.cond rfl (fun h => ?_) (fun h => ?_) <;> (try simp at h) <;> (try contradiction)) | fail)
            · exfalso; simp at *; omega
            · have hjl : j < ys.length := by omega
              have hgi : (ys.map tInt)[((j : Nat) : Int).toNat]? = some (tInt ys[j]) := by simp [hjl]
              have hdj := List.drop_eq_getElem_cons hjl
              have hrl : (r :: rest).length = rest.length + 1 := rfl
              have he : 0 + ((j : Int) + 1).toNat = j + 1 := by omega
              have hrow : ((127 :: (pre ++ r :: rest)).map tInt)[0 + ((j : Int) + 1).toNat]? = some (tInt r) := by
                rw [he]; simp [List.getElem?_append_right, hpl]
              · refine Tri.regD [] mixed (by kernel_rfl) ?_
                repeat' (first | refine TriL.nil ?_ | exact ⟨rfl, rfl, rfl⟩ | (apply D.v; rfl; rfl; rfl) | refine D.nil ?_ | (apply U.moveT; rfl; trivial; rfl) | (apply U.moveR; rfl; trivial; rfl) | (apply U.add; rfl; trivial; rfl; trivial; exact fun _ => wrap_i64 (by omega) (by omega); rfl) | (apply U.loadE; rfl; rfl; trivial; rfl; rfl) | (apply U.idx; rfl; trivial; rfl; trivial; exact fun _ => (by omega); exact fun _ => (by assumption); exact fun _ => rfl; rfl) | (apply U.idxR; rfl; trivial; rfl; trivial; exact fun _ => (by omega); exact fun _ => (by omega); rfl) | fail)
                · refine U.loadR rfl rfl trivial rfl hrow rfl rfl ?_
                  repeat' (first | refine TriL.nil ?_ | exact ⟨rfl, rfl, rfl⟩ | fail)
                repeat' (first | refine Tri.reg ?_ | refine TriL.nil ?_ | exact ⟨rfl, rfl, rfl⟩ | (apply U.moveT; rfl; trivial; rfl) | (apply U.assignT; rfl; trivial; rfl) | (apply U.moveR; rfl; trivial; rfl) | (apply U.add; rfl; trivial; rfl; trivial; exact fun _ => wrap_i64 (by omega) (by omega); rfl) | (apply U.bin; rfl; trivial; rfl; trivial; rfl; rfl) | refine Tri.skip ?_ | (apply U.idxR; rfl; trivial; rfl; trivial; exact fun _ => (by omega); exact fun _ => (by omega); rfl) | (refine Tri.cond rfl (fun h => ?_) (fun h => ?_) <;> (try simp at h) <;> (try contradiction)) | fail)
                · refine U.storeR rfl rfl rfl rfl rfl (by rw [he]; simp; omega) ?_
                  repeat' (first | refine Tri.reg ?_ | refine TriL.nil ?_ | (apply U.moveT; rfl; trivial; rfl) | (apply U.assignT; rfl; trivial; rfl) | (apply U.add; rfl; trivial; rfl; trivial; exact fun _ => wrap_i64 (by omega) (by omega); rfl) | fail)
                  have hj : joinN r ys[j] = 126 := by rw [joinN, if_neg (by assumption)]
                  refine ⟨(j + 1, pre ++ [joinN r ys[j]], rest), ⟨hjl, by simp [hpl], by rw [hq, hdj]; simp [zipJ]⟩, by dsimp only; omega, Sub.less (Sub.of rfl rfl ⟨rfl, rfl, rfl, ?_, rfl, trivial⟩ ⟨?_, rfl, trivial⟩)⟩
                  · refine congrArg some ?_
                    show PV.ref 1 1 0 _ _ = PV.ref 1 1 0 _ _
                    simp; omega
                  · refine congrArg some ?_
                    show Blk.row 1 _ false = Blk.row 1 _ false
                    rw [he, hj]
                    simp [List.set_append_right, hpl]
                    rfl
                · have hj : joinN r ys[j] = r := by rw [joinN, if_pos (by assumption)]
                  refine ⟨(j + 1, pre ++ [joinN r ys[j]], rest), ⟨hjl, by simp [hpl], by rw [hq, hdj]; simp [zipJ]⟩, by dsimp only; omega, Sub.less (Sub.of rfl rfl ⟨rfl, rfl, rfl, ?_, rfl, trivial⟩ ⟨?_, rfl, trivial⟩)⟩
                  · refine congrArg some ?_
                    show PV.ref 1 1 0 _ _ = PV.ref 1 1 0 _ _
                    simp; omega
                  · refine congrArg some ?_
                    show Blk.row 1 _ false = Blk.row 1 _ false
                    rw [hj]; simp
            · refine ⟨(i + 1, pre ++ r :: rest), ⟨hlt, ?_⟩, by dsimp only; omega, Sub.less (Sub.of rfl rfl ⟨rfl, ?_, rfl, trivial⟩ ⟨rfl, rfl, trivial⟩)⟩
              · rw [hr, hout (r :: rest) (by omega) hq]
              · refine congrArg some ?_
                show PV.ref 1 1 0 _ _ = PV.ref 1 1 0 _ _
                simp
      · refine Comes1.retF rfl rfl (by simp) ?_
        have : i = t.l.length := by omega
        subst this
        rw [List.drop_length, joinsN] at hr
        rw [hr]
        simp [iT]
        exact List.take_of_length_le (by simp)
theorem len_fl {t : Ty} (h : t.kind ≠ 0 → partsN t ≤ 500) : (flN t).length ≤ 1000 := by
  have h1 := flN_len t h
  have h2 : pw t ≤ 500 := by
    by_cases hk : t.kind = 0
    · rw [pw, if_pos hk]; omega
    · rw [pw, if_neg hk]; exact h hk
  omega
theorem cores_gd (t : Ty) (h : Gd t) (hel : ∀ (i : Nat) (h : i < t.l.length), E.Pure Tryd.prog 14 [agTy t.l[i]] (.one (.t (iT (flN t.l[i]))))) : E.Pure Tryd.prog 14 [encTy t] (.one (.t (iT (flN t)))) := by
  have hr := rowN_len _ 1 (by omega) h.sum
  have hj := joinsN_len _ [] 1 (by omega) (by simp) h.sum
  have hs := h.sum
  have hl := h.l
  exact cores_core t (by unfold big; omega) h.k16 (by have := h.ki; omega) hel (by omega) (by omega)
theorem cores_p : ∀ (m : Nat) (t : Ty), SizeOf.sizeOf t ≤ m → Gd t → E.Pure Tryd.prog 14 [encTy t] (.one (.t (iT (flN t)))) := by
  intro m
  induction m with
  | zero => intro t hm; cases t; simp at hm
  | succ m ih =>
    intro t hm h
    refine cores_gd t h fun i hi => ?_
    have hmem := List.getElem_mem hi
    have hsz := size_get hi t rfl
    have := ih t.l[i] (by omega) ((h.el _ hmem).1.gd (h.el _ hmem).2)
    rwa [encTy_eta] at this
end Go.Proofs.YtaplmmhkpljmkaaDoor

/- Layer 13: the law CtypePlain answers true. -/
namespace Go.Proofs.YtaplmmhkpljmkaaDoor
open Go E
set_option maxRecDepth 100000
set_option maxHeartbeats 4000000
set_option linter.unusedVariables false
set_option linter.unusedSimpArgs false
attribute [local irreducible] Tri TriL TriO PO VO E.Pure DOb
theorem smalls_all : ∀ {l : List Ty}, (∀ x ∈ l, small x) → smalls l
  | [], _ => trivial
  | t :: ts, h => ⟨h t (by simp), smalls_all fun x hx => h x (by simp [hx])⟩
theorem smalls_at {l : List Ty} (h : smalls l) {x : Ty} (hx : x ∈ l) : small x := by
  obtain ⟨i, hi, rfl⟩ := List.getElem_of_mem hx
  exact smalls_get h (List.getElem?_eq_getElem hi)
theorem digT_size (n : Nat) : (digT n).size ≤ 2 := by unfold digT; split <;> simp [ByteArray.size]
theorem two_big (a b : ByteArray) (ha : a.size ≤ big) (hb : b.size ≤ big) : [a, b].length ≤ big ∧ ∀ s ∈ [a, b], s.size ≤ big := by
  refine ⟨show 2 ≤ big by decide, fun s h => ?_⟩
  simp only [List.mem_cons, List.not_mem_nil, or_false] at h
  rcases h with rfl | rfl
  · exact ha
  · exact hb
theorem small_plain (z : Bool) {t : Ty} (hs : small t) (hd : Dim t) : small (plainT z t) := by
  have hl : smalls (plainT z t).l := smalls_all fun x hx => by
    rcases plainT_el hx with e | e
    · rw [e]; exact ⟨by unfold big; simp, fun s h => by simp at h, by unfold big; simp, trivial⟩
    · exact smalls_at (small_ls hs) e
  have hll := (plainT_len (z := z) hd).1
  have hn : (plainT z t).names.length ≤ big ∧ ∀ s ∈ (plainT z t).names, s.size ≤ big := by
    have h1 := small_names hs
    have h2 := small_name hs
    have h3 := hd.l
    unfold plainT
    split
    · show (digs t.l.length).length ≤ big ∧ ∀ s ∈ digs t.l.length, s.size ≤ big
      refine ⟨by simp [digs, big]; omega, fun s h => ?_⟩
      simp only [digs, List.mem_map] at h
      obtain ⟨n, _, rfl⟩ := h
      have := digT_size n; unfold big; omega
    split
    · exact ⟨h1, h2⟩
    split
    · exact two_big _ _ (by decide) (by decide)
    split
    · exact two_big _ _ (by decide) (by decide)
    · exact ⟨h1, h2⟩
  cases hx : plainT z t with
  | mk k nn ns nl l r =>
    rw [hx] at hl hll hn
    exact ⟨hn.1, hn.2, by have : l.length ≤ 65 := hll
                          unfold big; omega, hl⟩
theorem sameT_plain (t : Ty) : sameT (plainT false t) (plainT true t) = true := by
  unfold plainT
  split
  · exact sameT_refl _
  split
  · rw [sameT]; simp [Ty.kind, Ty.r, Ty.names, Ty.l, sameTs_refl]
  split
  · exact sameT_refl _
  split
  · exact sameT_refl _
  · exact sameT_refl _
theorem ctypePlain_p (t : Ty) (ht : small t) : E.Pure Tryd.prog 3 [encTy t] (.one (.t (tBool true))) := by
  have h2 := may_p t ht
  have h5 := awake_p lexName_p
  cases hm : mayB t with
  | false =>
    rw [hm] at h2
    refine Pure.of1 Tryd.func3 rfl rfl (Nat.le_of_ble_eq_true rfl) rfl ?_
    rw [encTy_eta] at *
    repeat' (first | refine Tri.seq ?_ | refine Tri.reg ?_ | refine TriL.nil ?_ | (apply U.assignT; rfl; trivial; rfl) | (apply U.loadS; rfl; rfl; trivial; rfl; rfl; rfl; rfl; rfl) | (apply U.not; rfl; trivial; rfl) | (apply U.boxA; rfl; rfl) | refine U.call1 rfl rfl (by assumption) rfl ?_ | (refine Tri.cond rfl (fun h => ?_) (fun h => ?_) <;> (try simp at h) <;> (try contradiction)) | fail)
    refine E.U.call0 rfl h5 rfl ?_
    repeat' (first | refine TriL.nil ?_ | (apply U.assignT; rfl; trivial; rfl) | refine Tri.ret ?_ | fail)
    exact Comes1.ret rfl rfl
  | true =>
    rw [hm] at h2
    obtain ⟨hv, hp⟩ := may_vd hm
    have hd := hv.dim
    have hg := hv.gdPlain false hp
    have hpl := plain_p t hd.nm hd.l
    have hplR := plainR_p t hd.nm hd.l
    have hss := small_plain false ht hd
    have hst := sameType_p _ (plainT false t) (plainT true t) (Nat.le_refl _) hss (small_plain true ht hd)
    rw [sameT_plain] at hst
    have hco := cores_p _ (plainT false t) (Nat.le_refl _) hg
    have hfl := Flat_p lexName_p t ht
    have hsz := sized_p _ (plainT false t) (Nat.le_refl _) hss hg
    have hal := aligned_p _ (plainT false t) (Nat.le_refl _) hss
    have hsz2 := size_p lexName_p t ht
    have hal2 := align_p lexName_p t ht
    have hlf := len_fl hp
    have hsame := same_p (flN t) (flN t) (flN t).isEmpty (flN t).isEmpty (by unfold big; omega) (by unfold big; omega)
    rw [(alN_law _ _ (Nat.le_refl _) hg).1, layN_plain] at hal
    rw [layN_plain] at hsz
    rw [flN_plain] at hco
    simp only [hm, if_true, decide_true] at hfl hsz2 hal2 hsame
    have hk := plainT_kind t false
    generalize plainT false t = x at *
    generalize plainT true t = y at *
    clear hg hss hd hv hp ht hlf hm
    refine Pure.of1 Tryd.func3 rfl rfl (Nat.le_of_ble_eq_true rfl) rfl ?_
    rw [encTy_eta t, encTy_eta x, encTy_eta y] at *
    repeat' (first | refine Tri.seq ?_ | refine Tri.reg ?_ | refine TriL.nil ?_ | (apply U.assignT; rfl; trivial; rfl) | (apply U.loadS; rfl; rfl; trivial; rfl; rfl; rfl; rfl; rfl) | (apply U.not; rfl; trivial; rfl) | (apply U.boxA; rfl; rfl) | (apply U.alloc; rfl; rfl; rfl; rfl) | (apply U.storeS; rfl; rfl; rfl; rfl; rfl; rfl; rfl; rfl) | refine U.call1 rfl rfl (by assumption) rfl ?_ | refine Tri.skip ?_ | (refine Tri.cond rfl (fun h => ?_) (fun h => ?_) <;> (try simp at h) <;> (try contradiction)) | fail)
    refine Tri.regD [] mixed (by kernel_rfl) ?_
    repeat' (first | refine Tri.seq ?_ | refine Tri.reg ?_ | refine TriL.nil ?_ | exact ⟨rfl, rfl, rfl⟩ | (apply D.v; rfl; rfl; rfl) | refine D.nil ?_ | (apply U.moveT; rfl; trivial; rfl) | (apply U.load; rfl; rfl; trivial; rfl; rfl; rfl) | (apply U.fld; rfl; trivial; rfl; infer_instance; decide; rfl) | (apply U.bin; rfl; trivial; rfl; trivial; rfl; rfl) | (apply U.loadS; rfl; rfl; trivial; rfl; rfl; rfl; rfl; rfl) | (apply U.not; rfl; trivial; rfl) | (apply U.pickb; rfl; trivial; rfl; (first | trivial | exact id | exact And.right | exact gvA | exact gvB | exact And.left | exact gvN | exact gvP2 | exact gvN2 | exact gvLA); rfl; (first | trivial | exact id | exact And.right | exact gvA | exact gvB | exact And.left | exact gvN | exact gvP2 | exact gvN2 | exact gvLA); rfl) | (apply G.load; rfl; rfl; (first | trivial | exact id | exact And.right | exact gvA | exact gvB | exact And.left | exact gvN | exact gvP2 | exact gvN2 | exact gvLA); rfl; rfl; rfl; rfl; rfl) | (apply G.fld; rfl; (first | trivial | exact id | exact And.right | exact gvA | exact gvB | exact And.left | exact gvN | exact gvP2 | exact gvN2 | exact gvLA); rfl; infer_instance; decide; rfl; rfl; rfl) | (apply G.bin; rfl; (first | trivial | exact id | exact And.right | exact gvA | exact gvB | exact And.left | exact gvN | exact gvP2 | exact gvN2 | exact gvLA); rfl; (first | trivial | exact id | exact And.right | exact gvA | exact gvB | exact And.left | exact gvN | exact gvP2 | exact gvN2 | exact gvLA); rfl; rfl; rfl; rfl) | (apply G.loadS; rfl; rfl; (first | trivial | exact id | exact And.right | exact gvA | exact gvB | exact And.left | exact gvN | exact gvP2 | exact gvN2 | exact gvLA); rfl; rfl; rfl; rfl; rfl; rfl; rfl) | (apply G.not; rfl; (first | trivial | exact id | exact And.right | exact gvA | exact gvB | exact And.left | exact gvN | exact gvP2 | exact gvN2 | exact gvLA); rfl; rfl; rfl) | refine U.call1 rfl rfl (by assumption) rfl ?_ | refine U.call2 rfl rfl rfl (by assumption) rfl ?_ | refine G.call1 rfl rfl (by (first | trivial | exact id | exact And.right | exact gvA | exact gvB | exact And.left | exact gvN | exact gvP2 | exact gvN2 | exact gvLA)) (by first | assumption | exact fun _ => by assumption) rfl rfl rfl ?_ | refine G.call2 rfl rfl (by (first | trivial | exact id | exact And.right | exact gvA | exact gvB | exact And.left | exact gvN | exact gvP2 | exact gvN2 | exact gvLA)) rfl (by (first | trivial | exact id | exact And.right | exact gvA | exact gvB | exact And.left | exact gvN | exact gvP2 | exact gvN2 | exact gvLA)) (by first | assumption | exact fun _ => by assumption) rfl rfl rfl ?_ | refine Tri.skip ?_ | (refine Tri.cond rfl (fun h => ?_) (fun h => ?_) <;> (try simp at h) <;> (try contradiction)) | fail)
    · refine E.G.call0 rfl (fun _ => h5) rfl rfl rfl ?_
      repeat' (first | refine TriL.nil ?_ | (apply U.assignT; rfl; trivial; rfl) | (apply U.pickb; rfl; trivial; rfl; (first | trivial | exact id | exact And.right | exact gvA | exact gvB | exact And.left | exact gvN | exact gvP2 | exact gvN2 | exact gvLA); rfl; (first | trivial | exact id | exact And.right | exact gvA | exact gvB | exact And.left | exact gvN | exact gvP2 | exact gvN2 | exact gvLA); rfl) | refine Tri.ret ?_ | fail)
      refine Comes1.ret rfl (retB ?_)
      simp [hk]
end Go.Proofs.YtaplmmhkpljmkaaDoor
