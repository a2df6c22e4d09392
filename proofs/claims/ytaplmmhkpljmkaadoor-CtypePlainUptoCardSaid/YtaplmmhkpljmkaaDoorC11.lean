/- Layer 13, the code: small numbers, their floats. -/
import Derived.Test.YtaplmmhkpljmkaaDoorC10
namespace Go.Proofs.YtaplmmhkpljmkaaDoor
open Go E
set_option maxRecDepth 100000
set_option maxHeartbeats 4000000
set_option linter.unusedVariables false
set_option linter.unusedSimpArgs false
attribute [local irreducible] Tri TriL TriO PO VO E.Pure DOb
def allR (p : Nat → Bool) : Nat → Nat → Bool
  | 0, lo => p lo
  | d + 1, lo => allR p d lo && allR p d (lo + 2 ^ d)
theorem allR_spec {p : Nat → Bool} : ∀ (d lo : Nat), allR p d lo = true → ∀ n, lo ≤ n → n < lo + 2 ^ d → p n = true
  | 0, lo, h, n, h1, h2 => by obtain rfl : n = lo := by simp at h2; omega
                              exact h
  | d + 1, lo, h, n, h1, h2 => by
    simp only [allR, Bool.and_eq_true] at h
    have e : 2 ^ (d + 1) = 2 ^ d + 2 ^ d := by rw [Nat.pow_succ]; omega
    by_cases hn : n < lo + 2 ^ d
    · exact allR_spec d lo h.1 n h1 hn
    · exact allR_spec d _ h.2 n (by omega) (by omega)
theorem f2i_0 : allR (fun n => decide (floatToIntVal .f64 (floatOfInt .f64 (n : Int)) .i64 = some (n : Int))) 10 0 = true := by kernel_rfl
theorem f2i_1 : allR (fun n => decide (floatToIntVal .f64 (floatOfInt .f64 (n : Int)) .i64 = some (n : Int))) 10 1024 = true := by kernel_rfl
theorem f2i_2 : allR (fun n => decide (floatToIntVal .f64 (floatOfInt .f64 (n : Int)) .i64 = some (n : Int))) 10 2048 = true := by kernel_rfl
theorem f2i_3 : allR (fun n => decide (floatToIntVal .f64 (floatOfInt .f64 (n : Int)) .i64 = some (n : Int))) 10 3072 = true := by kernel_rfl
theorem f2i_4 : allR (fun n => decide (floatToIntVal .f64 (floatOfInt .f64 (n : Int)) .i64 = some (n : Int))) 10 4096 = true := by kernel_rfl
theorem f2i_5 : allR (fun n => decide (floatToIntVal .f64 (floatOfInt .f64 (n : Int)) .i64 = some (n : Int))) 10 5120 = true := by kernel_rfl
theorem f2i_6 : allR (fun n => decide (floatToIntVal .f64 (floatOfInt .f64 (n : Int)) .i64 = some (n : Int))) 10 6144 = true := by kernel_rfl
theorem f2i_7 : allR (fun n => decide (floatToIntVal .f64 (floatOfInt .f64 (n : Int)) .i64 = some (n : Int))) 10 7168 = true := by kernel_rfl
def fl (n : Int) : Nat := floatOfInt .f64 n
theorem f2i {n : Int} (h0 : 0 ≤ n) (h1 : n < 8192) : floatToIntVal .f64 (fl n) .i64 = some n := by
  have key : ∀ k : Nat, k < 8192 → floatToIntVal .f64 (floatOfInt .f64 (k : Int)) .i64 = some (k : Int) := by
    intro k hk
    have : k < 1024 ∨ (1024 ≤ k ∧ k < 2048) ∨ (2048 ≤ k ∧ k < 3072) ∨ (3072 ≤ k ∧ k < 4096) ∨ (4096 ≤ k ∧ k < 5120) ∨ (5120 ≤ k ∧ k < 6144) ∨ (6144 ≤ k ∧ k < 7168) ∨ (7168 ≤ k ∧ k < 8192) := by omega
    rcases this with h | h | h | h | h | h | h | h
    · simpa using allR_spec 10 0 f2i_0 k (by omega) (by omega)
    · simpa using allR_spec 10 _ f2i_1 k (by omega) (by omega)
    · simpa using allR_spec 10 _ f2i_2 k (by omega) (by omega)
    · simpa using allR_spec 10 _ f2i_3 k (by omega) (by omega)
    · simpa using allR_spec 10 _ f2i_4 k (by omega) (by omega)
    · simpa using allR_spec 10 _ f2i_5 k (by omega) (by omega)
    · simpa using allR_spec 10 _ f2i_6 k (by omega) (by omega)
    · simpa using allR_spec 10 _ f2i_7 k (by omega) (by omega)
  have := key n.toNat (by omega)
  rwa [Int.toNat_of_nonneg h0] at this
theorem fl_1 : fl 1 = 4607182418800017408 := by kernel_rfl
theorem fl_8 : fl 8 = 4620693217682128896 := by kernel_rfl
theorem fl_4 : fl 4 = 4616189618054758400 := by kernel_rfl
theorem fl_0 : fl 0 = 0 := by kernel_rfl
def bytesN (n : Int) : Int := if n ≤ 256 then 1 else if n ≤ 65536 then 2 else 4
theorem bytes_p (n : Int) : E.Pure Tryd.prog 49 [tInt n] (.one (.t (tInt (bytesN n)))) := by
  refine Pure.of1 Tryd.func49 rfl rfl (Nat.le_of_ble_eq_true rfl) rfl ?_
  repeat' (first | refine Tri.seq ?_ | refine Tri.reg ?_ | refine TriL.nil ?_ | (apply U.moveT; rfl; trivial; rfl) | (apply U.assignT; rfl; trivial; rfl) | (apply U.bin; rfl; trivial; rfl; trivial; rfl; rfl) | refine Tri.skip ?_ | refine Tri.block ?_ | refine Tri.ret ?_ | (refine Tri.cond rfl (fun h => ?_) (fun h => ?_) <;> (try simp at h) <;> (try contradiction)) | fail)
  all_goals (refine Comes1.ret rfl ?_; simp only [bytesN]; (repeat' split) <;> first | rfl | (exfalso; omega))
def joinN (a b : Int) : Int := if a = b then a else 126
theorem join_p (a b : Int) : E.Pure Tryd.prog 52 [tInt a, tInt b] (.one (.t (tInt (joinN a b)))) := by
  refine Pure.of1 Tryd.func52 rfl rfl (Nat.le_of_ble_eq_true rfl) rfl ?_
  repeat' (first | refine Tri.seq ?_ | refine Tri.reg ?_ | refine TriL.nil ?_ | (apply U.moveT; rfl; trivial; rfl) | (apply U.assignT; rfl; trivial; rfl) | (apply U.bin; rfl; trivial; rfl; trivial; rfl; rfl) | refine Tri.skip ?_ | refine Tri.ret ?_ | (refine Tri.cond rfl (fun h => ?_) (fun h => ?_) <;> (try simp at h) <;> (try contradiction)) | fail)
  all_goals (refine Comes1.ret rfl ?_; simp only [joinN]; (repeat' split) <;> first | rfl | (exfalso; omega))
def upN (n k : Int) : Int := (n + k - 1) / k * k
theorem upN_le {n k : Int} (h : 0 ≤ n) (hk : 0 < k) : 0 ≤ (n + k - 1) / k ∧ n ≤ upN n k ∧ upN n k ≤ n + k - 1 := by
  have h1 : 0 ≤ (n + k - 1) / k := Int.ediv_nonneg (by omega) (by omega)
  have h2 := Int.emod_add_mul_ediv (n + k - 1) k
  have h3 := Int.emod_nonneg (n + k - 1) (show k ≠ 0 by omega)
  have h4 := Int.emod_lt_of_pos (n + k - 1) hk
  unfold upN
  rw [Int.mul_comm] at h2
  refine ⟨h1, ?_, ?_⟩ <;> omega
theorem up_p (n k : Int) (h : 0 ≤ n) (hk : 0 < k) (h1 : n ≤ 1000000) (h2 : k ≤ 1000000) : E.Pure Tryd.prog 48 [tInt n, tInt k] (.one (.t (tInt (upN n k)))) := by
  obtain ⟨h3, h4, h5⟩ := upN_le h hk
  have h6 : (n + k - 1) / k ≤ n + k - 1 := Int.ediv_le_self _ (by omega)
  have e1 : (n + k - 1).tdiv k = (n + k - 1) / k := Int.tdiv_eq_ediv_of_nonneg (by omega)
  have e2 : IntKind.i64.wrap ((n + k - 1).tdiv k) = (n + k - 1) / k := (wrap_i64 (by rw [e1]; omega) (by rw [e1]; omega)).trans e1
  have e3 : IntKind.i64.wrap ((n + k - 1) / k * k) = (n + k - 1) / k * k := wrap_i64 (by unfold upN at *; omega) (by unfold upN at *; omega)
  refine Pure.of1 Tryd.func48 rfl rfl (Nat.le_of_ble_eq_true rfl) rfl ?_
  repeat' (first | refine Tri.seq ?_ | refine Tri.reg ?_ | refine TriL.nil ?_ | (apply U.moveT; rfl; trivial; rfl) | (apply U.assignT; rfl; trivial; rfl) | (apply U.add; rfl; trivial; rfl; trivial; exact fun _ => wrap_i64 (by omega) (by omega); rfl) | (apply U.sub; rfl; trivial; rfl; trivial; exact fun _ => wrap_i64 (by omega) (by omega); rfl) | (apply U.mul; rfl; trivial; rfl; trivial; exact fun _ => (by first | assumption | exact wrap_i64 (by omega) (by omega)); rfl) | (apply U.quo; rfl; trivial; rfl; trivial; exact fun _ => (by omega); exact fun _ => (by assumption); rfl) | refine Tri.ret ?_ | fail)
  exact Comes1.ret rfl rfl
end Go.Proofs.YtaplmmhkpljmkaaDoor
