/- The handles of a value: plain; the type of what is within. -/
import Derived.Test.YtmhbibfkhbaclaaGreatDoorK29
namespace Go.Proofs.YtmhbibfkhbaclaaGreatDoor
open Go E
set_option maxRecDepth 100000
set_option maxHeartbeats 4000000
set_option linter.unusedVariables false
set_option linter.unusedSimpArgs false
attribute [local irreducible] Tri TriL TriO PO VO E.Pure DOb XOb
mutual
/-- The handles' types, their numbers. -/
def hnT : Val → Ty → List Ty
  | .mk n _ _ _ l, t => if t.kind = 20 ∨ t.kind = 21 then [t] else hnTs l (insL t n l.length)
def hnTs : List Val → List Ty → List Ty
  | [], _ => []
  | v :: vs, ts => hnT v (ts.headD ty0) ++ hnTs vs ts.tail
end
mutual
def hnN : Val → Ty → List Int
  | .mk n _ _ _ l, t => if t.kind = 20 ∨ t.kind = 21 then [n] else hnNs l (insL t n l.length)
def hnNs : List Val → List Ty → List Int
  | [], _ => []
  | v :: vs, ts => hnN v (ts.headD ty0) ++ hnNs vs ts.tail
end
theorem hnT_eq (v : Val) (t : Ty) : hnT v t = if t.kind = 20 ∨ t.kind = 21 then [t] else hnTs v.l (insL t v.n v.l.length) := by cases v; rw [hnT]; rfl
theorem hnN_eq (v : Val) (t : Ty) : hnN v t = if t.kind = 20 ∨ t.kind = 21 then [v.n] else hnNs v.l (insL t v.n v.l.length) := by cases v; rw [hnN]; rfl
mutual
theorem hn_len : ∀ (v : Val) (t : Ty), (hnT v t).length = (hnN v t).length
  | .mk n ns s nl l, t => by
    rw [hnT, hnN]
    split
    · rfl
    · exact hns_len l _
theorem hns_len : ∀ (l : List Val) (ts : List Ty), (hnTs l ts).length = (hnNs l ts).length
  | [], ts => by rw [hnTs, hnNs]; rfl
  | v :: vs, ts => by rw [hnTs, hnNs, List.length_append, List.length_append, hn_len v, hns_len vs]
end
theorem sumV_el : ∀ (l : List Val) (ts : List Ty) (acc : Nat), sumV l ts acc ≠ 0 → l.length ≤ ts.length → ∀ (i : Nat) (h : i < l.length) (h2 : i < ts.length), partV l[i] ts[i] ≠ 0
  | [], _, acc, _, _, i, h, _ => absurd h (Nat.not_lt_zero i)
  | v :: vs, [], acc, _, hl, i, h, h2 => absurd h2 (Nat.not_lt_zero i)
  | v :: vs, t :: ts, acc, hs, hl, i, h, h2 => by
    rw [sumV] at hs
    split at hs
    · exact absurd rfl hs
    · rename_i hc
      cases i with
      | zero => exact fun e => hc (.inl e)
      | succ i => exact sumV_el vs ts _ hs (by simpa using hl) i (by simpa using h) (by simpa using h2)
mutual
theorem hn_le : ∀ (v : Val) (t : Ty), partV v t ≠ 0 → (hnT v t).length ≤ partV v t
  | .mk n ns s nl l, t => by
    intro h
    rw [hnT]
    split
    · have : 0 < partV (.mk n ns s nl l) t := by omega
      show 1 ≤ _
      omega
    · rename_i hk
      rw [partV] at h ⊢
      split
      · split
        · rename_i hc; rw [hc.2.2, hnTs]; simp
        · rename_i hw hc; rw [if_pos hw, if_neg hc] at h; exact absurd rfl h
      · rename_i hw
        rw [if_neg hw] at h
        split
        · rename_i h10
          rw [if_pos h10] at h
          split
          · rename_i hc; rw [hc.2.2, hnTs]; simp
          · rename_i hc; rw [if_neg hc] at h; exact absurd rfl h
        · rename_i h10
          rw [if_neg h10] at h
          split
          · rename_i h11
            rw [if_pos h11] at h
            split
            · rename_i hc; rw [hc.2.2.1, hnTs]; simp
            · rename_i hc; rw [if_neg hc] at h; exact absurd rfl h
          · rename_i h11
            rw [if_neg h11] at h
            split
            · rename_i hs; rw [if_pos hs] at h; exact absurd rfl h
            · rename_i hs
              rw [if_neg hs] at h
              split
              · rename_i h19
                rw [if_pos h19] at h
                split
                · rename_i hc; rw [hc.2.2, hnTs]; simp
                · rename_i hc; rw [if_neg hc] at h; exact absurd rfl h
              · rename_i h19
                rw [if_neg h19] at h
                split
                · rename_i hB
                  rw [if_pos hB] at h
                  have := hns_le l (insL t n l.length) 1 h
                  omega
                · rename_i hB; rw [if_neg hB] at h; exact absurd rfl h
theorem hns_le : ∀ (l : List Val) (ts : List Ty) (acc : Nat), sumV l ts acc ≠ 0 → (hnTs l ts).length + acc ≤ sumV l ts acc
  | [], ts, acc, h => by rw [hnTs, sumV]; simp
  | v :: vs, ts, acc, h => by
    rw [sumV] at h ⊢
    split at h
    · exact absurd rfl h
    · rename_i hc
      rw [if_neg hc, hnTs, List.length_append]
      have h1 := hn_le v (ts.headD ty0) (fun e => hc (.inl e))
      have h2 := hns_le vs ts.tail _ h
      omega
end
theorem hnTs_step {l : List Val} {ts : List Ty} {i : Nat} (h : i < l.length) (h2 : i < ts.length) : hnTs (l.drop i) (ts.drop i) = hnT l[i] ts[i] ++ hnTs (l.drop (i + 1)) (ts.drop (i + 1)) := by
  rw [List.drop_eq_getElem_cons h, List.drop_eq_getElem_cons h2, hnTs]; rfl
theorem hnNs_step {l : List Val} {ts : List Ty} {i : Nat} (h : i < l.length) (h2 : i < ts.length) : hnNs (l.drop i) (ts.drop i) = hnN l[i] ts[i] ++ hnNs (l.drop (i + 1)) (ts.drop (i + 1)) := by
  rw [List.drop_eq_getElem_cons h, List.drop_eq_getElem_cons h2, hnNs]; rfl
/-- What is within a value that is one of its type. -/
theorem val_in {t : Ty} {v : Val} (hv : Vd t) (h0 : t.kind ≠ 0) (hp : partV v t ≠ 0) (hk : ¬(t.kind = 20 ∨ t.kind = 21)) (hl : v.l ≠ []) : 12 ≤ t.kind ∧ t.kind ≤ 18 ∧ insB t v.n v.l.length = true ∧ sumV v.l (insL t v.n v.l.length) 1 ≠ 0 := by
  rw [partV_eq] at hp
  split at hp
  · split at hp
    · rename_i hc; exact absurd hc.2.2 hl
    · exact absurd rfl hp
  · rename_i hw
    have hw2 : ¬((1 ≤ t.kind ∧ t.kind ≤ 9) ∨ t.kind = 20 ∨ t.kind = 21) := fun e => hw (decide_eq_true e)
    split at hp
    · split at hp
      · rename_i hc; exact absurd hc.2.2 hl
      · exact absurd rfl hp
    · split at hp
      · split at hp
        · rename_i hc; exact absurd hc.2.2.1 hl
        · exact absurd rfl hp
      · split at hp
        · exact absurd rfl hp
        · split at hp
          · split at hp
            · rename_i hc; exact absurd hc.2.2 hl
            · exact absurd rfl hp
          · split at hp
            · rename_i hB
              have hkk : 1 ≤ t.kind ∧ t.kind ≤ 21 := by
                rcases hv.kinds with ⟨h, _⟩ | ⟨h6, h7, _⟩
                · exact absurd h h0
                · exact ⟨h6, h7⟩
              exact ⟨by omega, by omega, hB, hp⟩
            · exact absurd rfl hp
theorem inner_p (t : Ty) (v : Val) (i : Nat) (hv : Vd t) (h0 : t.kind ≠ 0) (hp : partV v t ≠ 0) (hk : ¬(t.kind = 20 ∨ t.kind = 21)) (hi : i < v.l.length) (hb : v.l.length ≤ big) (hj : i < (insL t v.n v.l.length).length) :
    E.Pure Tryz.prog 29 [encTy t, encVal v, tInt i] (.one (.t (agTy (insL t v.n v.l.length)[i]))) := by
  obtain ⟨k1, k2, hB, hS⟩ := val_in hv h0 hp hk (fun e => by rw [e] at hi; exact absurd hi (Nat.not_lt_zero i))
  have hpl := plain_p t hv.dim.nm hv.dim.l
  have hlen := encTys_length (plainT false t).l
  have hlen2 := encTys_length t.l
  unfold big at hb
  refine Pure.ofC rfl Tryz.func29 rfl rfl (Nat.le_of_ble_eq_true rfl) rfl ?_
  rw [encTy_eta, encTy_eta (plainT false t)] at hpl
  rw [encTy_eta, encVal_eta]
  obtain ⟨x, hx⟩ : ∃ x, x = (insL t v.n v.l.length)[i] := ⟨_, rfl⟩
  have hx2 : (insL t v.n v.l.length)[i]? = some x := by rw [List.getElem?_eq_getElem hj, hx]
  rw [← hx]
  clear hx
  repeat' (first | refine Tri.seq ?_ | refine Tri.reg ?_ | refine TriL.nil ?_ | (apply U.moveT; rfl; trivial; rfl) | (apply U.assignT; rfl; trivial; rfl) | (apply U.load; rfl; rfl; trivial; rfl; rfl; rfl) | (apply U.fld; rfl; trivial; rfl; infer_instance; decide; rfl) | (apply U.bin; rfl; trivial; rfl; trivial; rfl; rfl) | (apply U.loadS; rfl; rfl; trivial; rfl; rfl; rfl; rfl; rfl) | (apply U.boxA; rfl; rfl) | (apply U.alloc; rfl; rfl; rfl; rfl) | (apply U.storeS; rfl; rfl; rfl; rfl; rfl; rfl; rfl; rfl) | refine U.call1 rfl rfl (by assumption) rfl ?_ | refine Tri.block ?_ | (refine Tri.cond rfl (fun h => ?_) (fun h => ?_) <;> (try simp at h) <;> (try contradiction)) | fail)
  · have hk15 : 15 ≤ t.kind ∧ t.kind ≤ 18 := by
      by_cases e : t.kind = 12 ∨ t.kind = 13 ∨ t.kind = 14
      · rcases e with e | e | e <;> simp [plainT, e, mk_kind] at h
      · omega
    have hBB := hB
    simp only [insB, if_neg (show ¬ t.kind = 12 by omega), if_neg (show ¬(t.kind = 13 ∨ t.kind = 14) by omega), if_pos hk15, Bool.and_eq_true, decide_eq_true_eq] at hBB
    have hn0 := hBB.1.1
    have hn1 : v.n.toNat < (plainT false t).l.length := by omega
    have hcase : caseT t v.n = (plainT false t).l[v.n.toNat] := by unfold caseT; rw [List.getD_eq_getElem?_getD, List.getElem?_eq_getElem hn1]; rfl
    have hix : x = caseT t v.n := by
      unfold insL at hx2
      rw [if_neg (show ¬ t.kind = 12 by omega), if_neg (show ¬(t.kind = 13 ∨ t.kind = 14) by omega)] at hx2
      split at hx2
      · cases i with
        | zero => simpa using hx2.symm
        | succ i => simp at hx2
      · simp at hx2
    have hget : (encTys (plainT false t).l)[v.n.toNat]? = some (agTy x) := by rw [encTys_get, List.getElem?_eq_getElem hn1, Option.map_some, encTy_eta, hix, hcase]
    repeat' (first | refine TriL.nil ?_ | (apply U.loadES; rfl; rfl; trivial; rfl; rfl; rfl) | (apply U.idx; rfl; trivial; rfl; trivial; exact fun _ => (by omega); exact fun _ => (by assumption); exact fun _ => rfl; rfl) | (apply U.storeS; rfl; rfl; rfl; rfl; rfl; rfl; rfl; rfl) | refine Tri.ret ?_ | fail)
    exact ComesC.tree rfl rfl rfl rfl rfl
  · have hk12 : t.kind = 12 := by
      by_cases e : t.kind = 12
      · exact e
      · have : t.kind = 13 ∨ t.kind = 14 ∨ t.kind = 15 ∨ t.kind = 16 ∨ t.kind = 17 ∨ t.kind = 18 := by omega
        rcases this with e | e | e | e | e | e <;> simp [plainT, e, mk_kind] at h
    have hpt : plainT false t = t := by simp [plainT, hk12]
    have hl1 := own12 (hv.own h0) hk12
    obtain ⟨t0, ht0⟩ := List.length_eq_one_iff.1 hl1
    have hix : x = t0 := by
      unfold insL at hx2
      rw [if_pos hk12, ht0] at hx2
      have := List.mem_of_getElem? hx2
      exact List.eq_of_mem_replicate this
    have hget : (encTys (plainT false t).l)[((0 : Int)).toNat]? = some (agTy x) := by rw [hpt, ht0, hix]; simp [encTys, encTy_eta]
    rw [hpt] at hlen
    have hlen3 : (encTys (plainT false t).l).length = 1 := by rw [hpt]; omega
    repeat' (first | refine TriL.nil ?_ | (apply U.loadES; rfl; rfl; trivial; rfl; rfl; rfl) | (apply U.idx; rfl; trivial; rfl; trivial; exact fun _ => (by omega); exact fun _ => (by assumption); exact fun _ => rfl; rfl) | (apply U.storeS; rfl; rfl; rfl; rfl; rfl; rfl; rfl; rfl) | refine Tri.ret ?_ | fail)
    exact ComesC.tree rfl rfl rfl rfl rfl
  · rename_i h15
    have hk13 : t.kind = 13 ∨ t.kind = 14 := by
      have : t.kind = 12 ∨ t.kind = 13 ∨ t.kind = 14 ∨ t.kind = 15 ∨ t.kind = 16 ∨ t.kind = 17 ∨ t.kind = 18 := by omega
      rcases this with e | e | e | e | e | e | e
      · exact absurd (by simp [plainT, e]) h
      · exact .inl e
      · exact .inr e
      all_goals exact absurd (by simp [plainT, e, mk_kind]) h15
    have hpt : (plainT false t).l = t.l := (plain_case (by omega)).2 hk13
    have hix : t.l[i]? = some x := by
      unfold insL at hx2
      rwa [if_neg (by omega), if_pos hk13] at hx2
    have hlt : i < t.l.length := (List.getElem?_eq_some_iff.1 hix).1
    have hget : (encTys (plainT false t).l)[((i : Nat) : Int).toNat]? = some (agTy x) := by rw [hpt, Int.toNat_natCast, encTys_get, hix, Option.map_some, encTy_eta]
    rw [hpt] at hlen
    have hlen3 : (encTys (plainT false t).l).length = t.l.length := by rw [hpt]; omega
    repeat' (first | refine TriL.nil ?_ | (apply U.loadES; rfl; rfl; trivial; rfl; rfl; rfl) | (apply U.idx; rfl; trivial; rfl; trivial; exact fun _ => (by omega); exact fun _ => (by assumption); exact fun _ => rfl; rfl) | (apply U.storeS; rfl; rfl; rfl; rfl; rfl; rfl; rfl; rfl) | refine Tri.ret ?_ | fail)
    exact ComesC.tree rfl rfl rfl rfl rfl
end Go.Proofs.YtmhbibfkhbaclaaGreatDoor
