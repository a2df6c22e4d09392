/- A value with other handles: plain. -/
import Derived.Test.YtmhbibfkhbaclaaGreatDoorK30
namespace Go.Proofs.YtmhbibfkhbaclaaGreatDoor
open Go E
set_option maxRecDepth 100000
set_option maxHeartbeats 4000000
set_option linter.unusedVariables false
set_option linter.unusedSimpArgs false
mutual
/-- Other numbers in the place of the handles. -/
def wtV : Val → Ty → List Int → Val
  | .mk n ns s _ l, t, a => if t.kind = 20 ∨ t.kind = 21 then .mk (a.headD 0) true [] true [] else .mk n ns s l.isEmpty (wtVs l (insL t n l.length) a)
def wtVs : List Val → List Ty → List Int → List Val
  | [], _, _ => []
  | v :: vs, ts, a => wtV v (ts.headD ty0) a :: wtVs vs ts.tail (a.drop (hnT v (ts.headD ty0)).length)
end
theorem wtV_eq (v : Val) (t : Ty) (a : List Int) : wtV v t a = if t.kind = 20 ∨ t.kind = 21 then .mk (a.headD 0) true [] true [] else .mk v.n v.ns v.s v.l.isEmpty (wtVs v.l (insL t v.n v.l.length) a) := by cases v; rw [wtV]; rfl
theorem wtVs_length : ∀ (l : List Val) (ts : List Ty) (a : List Int), (wtVs l ts a).length = l.length
  | [], _, _ => by rw [wtVs]
  | v :: vs, ts, a => by rw [wtVs, List.length_cons, List.length_cons, wtVs_length vs]
theorem wtVs_step {l : List Val} {ts : List Ty} {i : Nat} (a : List Int) (h : i < l.length) (h2 : i < ts.length) : wtVs (l.drop i) (ts.drop i) a = wtV l[i] ts[i] a :: wtVs (l.drop (i + 1)) (ts.drop (i + 1)) (a.drop (hnT l[i] ts[i]).length) := by
  rw [List.drop_eq_getElem_cons h, List.drop_eq_getElem_cons h2, wtVs]; rfl
mutual
theorem hnT_wt : ∀ (v : Val) (t : Ty) (a : List Int), hnT (wtV v t a) t = hnT v t
  | .mk n ns s nl l, t, a => by
    rw [wtV]
    split
    · rename_i h; rw [hnT, if_pos h, hnT, if_pos h]
    · rename_i h; rw [hnT, if_neg h, hnT, if_neg h, wtVs_length, hnTs_wt]
theorem hnTs_wt : ∀ (l : List Val) (ts : List Ty) (a : List Int), hnTs (wtVs l ts a) ts = hnTs l ts
  | [], ts, a => by rw [wtVs]
  | v :: vs, ts, a => by rw [wtVs, hnTs, hnTs, hnT_wt, hnTs_wt]
end
mutual
theorem hnN_wt : ∀ (v : Val) (t : Ty) (a : List Int), (hnT v t).length ≤ a.length → hnN (wtV v t a) t = a.take (hnT v t).length
  | .mk n ns s nl l, t, a => by
    intro ha
    rw [wtV]
    rw [hnT] at ha ⊢
    split
    · rename_i h
      rw [if_pos h] at ha
      rw [hnN, if_pos h]
      cases a with
      | nil => exact absurd ha (by simp)
      | cons x xs => rfl
    · rename_i h
      rw [if_neg h] at ha
      rw [hnN, if_neg h, wtVs_length, hnNs_wt l _ a ha]
theorem hnNs_wt : ∀ (l : List Val) (ts : List Ty) (a : List Int), (hnTs l ts).length ≤ a.length → hnNs (wtVs l ts a) ts = a.take (hnTs l ts).length
  | [], ts, a => by intro _; rw [wtVs, hnNs, hnTs]; rfl
  | v :: vs, ts, a => by
    intro ha
    rw [hnTs, List.length_append] at ha
    rw [wtVs, hnNs, hnTs, hnN_wt v _ a (by omega), hnNs_wt vs _ _ (by rw [List.length_drop]; omega), List.length_append, List.take_add]
end
mutual
theorem partV_wt : ∀ (v : Val) (t : Ty) (a : List Int), (hnT v t).length ≤ a.length → (∀ x ∈ a, 0 ≤ x ∧ x ≤ 4294967295) → partV v t ≠ 0 → partV (wtV v t a) t = partV v t
  | .mk n ns s nl l, t, a => by
    intro ha hr hp
    rw [wtV]
    rw [hnT] at ha
    split
    · rename_i h
      rw [if_pos h] at ha
      have hw : isW t.kind = true := decide_eq_true (.inr h)
      rw [partV, if_pos hw] at hp ⊢
      rw [partV, if_pos hw]
      split at hp
      · rename_i hc
        rw [if_pos hc, if_pos]
        refine ⟨?_, rfl, rfl⟩
        cases a with
        | nil => exact absurd ha (by simp)
        | cons x xs =>
          have := hr x (by simp)
          rcases h with h | h <;> (rw [h]; exact decide_eq_true ⟨by show (0 : Int) ≤ x; omega, by show x ≤ 4294967295; omega⟩)
      · exact absurd rfl hp
    · rename_i h
      rw [if_neg h] at ha
      rw [partV] at hp ⊢
      rw [partV, wtVs_length]
      have hl0 : wtVs l (insL t n l.length) a = [] ↔ l = [] := by
        rw [← List.length_eq_zero_iff, wtVs_length, List.length_eq_zero_iff]
      simp only [hl0]
      split
      · rfl
      · split
        · rfl
        · split
          · rfl
          · split
            · rfl
            · split
              · rfl
              · split
                · rename_i hB
                  rename_i h1 h2 h3 h4 h5
                  rw [if_neg h1, if_neg h2, if_neg h3, if_neg h4, if_neg h5, if_pos hB] at hp
                  exact sumV_wt l _ a 1 ha hr hp
                · rfl
theorem sumV_wt : ∀ (l : List Val) (ts : List Ty) (a : List Int) (acc : Nat), (hnTs l ts).length ≤ a.length → (∀ x ∈ a, 0 ≤ x ∧ x ≤ 4294967295) → sumV l ts acc ≠ 0 → sumV (wtVs l ts a) ts acc = sumV l ts acc
  | [], ts, a, acc => by intro _ _ _; rw [wtVs]
  | v :: vs, ts, a, acc => by
    intro ha hr hp
    rw [hnTs, List.length_append] at ha
    rw [sumV] at hp ⊢
    rw [wtVs, sumV]
    split at hp
    · exact absurd rfl hp
    · rename_i hc
      have h1 := partV_wt v (ts.headD ty0) a (by omega) hr (fun e => hc (.inl e))
      rw [h1, if_neg hc, if_neg hc]
      exact sumV_wt vs _ _ _ (by rw [List.length_drop]; omega) (fun x hx => hr x (List.mem_of_mem_drop hx)) hp
end
mutual
theorem smallV_wt : ∀ (v : Val) (t : Ty) (a : List Int), (∀ x ∈ a, 0 ≤ x ∧ x ≤ 4294967295) → smallV v → smallV (wtV v t a)
  | .mk n ns s nl l, t, a => by
    intro ha hs
    rw [wtV]
    split
    · refine ⟨?_, Nat.zero_le _, fun x hx => absurd hx (by simp), Nat.zero_le _, trivial⟩
      cases a with
      | nil => exact ⟨by decide, by decide⟩
      | cons x xs => have := ha x (by simp); exact ⟨by show _ ≤ x; omega, by show x < _; omega⟩
    · obtain ⟨h1, h2, h3, h4, h5⟩ := hs
      exact ⟨h1, h2, h3, by rw [wtVs_length]; exact h4, smallVs_wt l _ a ha h5⟩
theorem smallVs_wt : ∀ (l : List Val) (ts : List Ty) (a : List Int), (∀ x ∈ a, 0 ≤ x ∧ x ≤ 4294967295) → smallVs l → smallVs (wtVs l ts a)
  | [], ts, a => by intro _ _; rw [wtVs]; trivial
  | v :: vs, ts, a => by
    intro ha hs
    rw [wtVs]
    exact ⟨smallV_wt v _ a ha hs.1, smallVs_wt vs _ _ (fun x hx => ha x (List.mem_of_mem_drop hx)) hs.2⟩
end
theorem sumV_len : ∀ (l : List Val) (ts : List Ty) (acc : Nat), sumV l ts acc ≠ 0 → l.length + acc ≤ sumV l ts acc
  | [], ts, acc, h => by rw [sumV]; simp
  | v :: vs, ts, acc, h => by
    rw [sumV] at h ⊢
    split at h
    · exact absurd rfl h
    · rename_i hc
      rw [if_neg hc, List.length_cons]
      have h2 := sumV_len vs ts.tail _ h
      have : partV v (ts.headD ty0) ≠ 0 := fun e => hc (.inl e)
      omega
theorem part_s {v : Val} {t : Ty} (hp : partV v t ≠ 0) : v.s.length ≤ 1000 := by
  rw [partV_eq] at hp
  split at hp
  · split at hp
    · rename_i hc; rw [hc.2.1]; exact Nat.zero_le _
    · exact absurd rfl hp
  · split at hp
    · split at hp
      · rename_i hc; rw [hc.2.1]; exact Nat.zero_le _
      · exact absurd rfl hp
    · split at hp
      · split at hp
        · rename_i hc; exact hc.2.2.2
        · exact absurd rfl hp
      · split at hp
        · exact absurd rfl hp
        · rename_i hc
          rw [Decidable.not_not.1 hc]; exact Nat.zero_le _
end Go.Proofs.YtmhbibfkhbaclaaGreatDoor
