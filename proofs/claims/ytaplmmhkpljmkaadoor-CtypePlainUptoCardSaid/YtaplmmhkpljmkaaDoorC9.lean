/- Layer 13, the code: Check; what within is. -/
import Derived.Test.YtaplmmhkpljmkaaDoorC8
namespace Go.Proofs.YtaplmmhkpljmkaaDoor
open Go E
set_option maxRecDepth 100000
set_option maxHeartbeats 4000000
set_option linter.unusedVariables false
set_option linter.unusedSimpArgs false
attribute [local irreducible] Tri TriL TriO PO VO E.Pure DOb
theorem none_parts {t : Ty} (h : ownB t = true) : t.kind ≠ 0 := by
  intro e; simp [ownB, e] at h
theorem deepB_own {t : Ty} {n : Int} (h : deepB t n = true) : ownB t = true := by
  rw [deepB_eq] at h; simp at h; exact h.1.2
mutual
theorem within_law : ∀ (t : Ty) (n : Int), withinN t (n + 1) = if deepB t n = true ∧ partsN t ≤ 500 then partsN t else 0
  | .mk k nn ns nl l r, n => by
    rw [withinN, deepB, partsN]
    cases ho : ownB (.mk k nn ns nl l r) with
    | false => simp
    | true =>
      by_cases hn : n ≥ 16
      · simp [hn]; intro h; omega
      · have := withinGo_law k 1 l n (by omega) (by omega)
        rw [if_neg (by simp; omega), this]
        simp [hn]
theorem withinGo_law (k : Int) : ∀ (m : Int) (l : List Ty) (n : Int), m ≤ 500 → 1 ≤ m → withinGo k m l (n + 1) = if deepsB k l n = true ∧ partsGo m l ≤ 500 then partsGo m l else 0
  | m, [], n, hm, h1 => by rw [withinGo, deepsB, partsGo]; simp [hm]
  | m, t :: ts, n, hm, h1 => by
    have ih := within_law t (n + 1)
    have hp := partsN_le t
    rw [withinGo, deepsB, partsGo, if_pos hm]
    by_cases hc : (k = 15 ∨ k = 18) ∧ noneT t = true
    · have hk : t.kind = 0 := by have := hc.2; simp [noneT] at this; exact this.1.1.1
      rw [if_pos hc, withinGo_law k m ts n hm h1]
      simp [hc.1, hc.2, hk]
    · rw [if_neg hc]
      have hd : (decide (k = 15 ∨ k = 18) && noneT t || deepB t (n + 1)) = deepB t (n + 1) := by
        have : (decide (k = 15 ∨ k = 18) && noneT t) = false := by
          cases h1 : decide (k = 15 ∨ k = 18) <;> cases h2 : noneT t <;> simp_all
        rw [this]; rfl
      rw [hd, ih]
      cases hdb : deepB t (n + 1) with
      | false => simp
      | true =>
        have hk := none_parts (deepB_own hdb)
        have hg := partsGo_le (m + partsN t) ts
        rw [if_pos hk]
        by_cases h5 : partsN t ≤ 500
        · simp only [true_and, if_pos h5]
          by_cases h6 : m + partsN t ≤ 500
          · rw [if_neg (by omega), withinGo_law k _ ts n h6 (by omega)]; simp
          · rw [if_pos (by omega), if_neg (by omega)]
        · have e : ¬ (deepsB k ts n = true ∧ partsGo (m + partsN t) ts ≤ 500) := by rintro ⟨_, e⟩; omega
          simp [if_neg h5]; intro e1 e2; exact absurd ⟨e1, e2⟩ e
end
theorem within_may (t : Ty) : decide (withinN t 1 = 0) = !mayB t := by
  have h := within_law t 0
  have hp := partsN_le t
  simp only [Int.zero_add] at h
  rw [h, mayB]
  cases deepB t 0 <;> by_cases h5 : partsN t ≤ 500 <;> simp [h5] <;> omega
theorem check_p (HN : LexName) (t : Ty) (hs : small t) : E.Pure Tryd.prog 20 [encTy t] (.one (.t (tInt (if mayB t then 0 else 1)))) := by
  have hw := within_p HN _ t 1 (Nat.le_refl _) hs (by omega) (by omega)
  have hm := within_may t
  refine Pure.of1 Tryd.func20 rfl rfl (Nat.le_of_ble_eq_true rfl) rfl ?_
  rw [encTy_eta] at *
  repeat' (first | refine Tri.seq ?_ | refine Tri.reg ?_ | refine TriL.nil ?_ | (apply U.assignT; rfl; trivial; rfl) | (apply U.bin; rfl; trivial; rfl; trivial; rfl; rfl) | (apply U.loadS; rfl; rfl; trivial; rfl; rfl; rfl; rfl; rfl) | (apply U.boxA; rfl; rfl) | refine U.call2 rfl rfl rfl (by assumption) rfl ?_ | refine Tri.skip ?_ | refine Tri.ret ?_ | (refine Tri.cond rfl (fun h => ?_) (fun h => ?_) <;> (try simp at h) <;> (try contradiction)) | fail)
  · refine Comes1.ret rfl ?_
    rw [h] at hm; rw [if_neg (by simpa using hm)]; rfl
  · refine Comes1.ret rfl ?_
    rw [if_pos (by simpa [h] using hm)]; rfl
end Go.Proofs.YtaplmmhkpljmkaaDoor
