/- Layer 13: what lay is, plainly. -/
import Derived.Test.YtaplmmhkpljmkaaDoorC13
namespace Go.Proofs.YtaplmmhkpljmkaaDoor
open Go E
set_option maxRecDepth 100000
set_option maxHeartbeats 4000000
set_option linter.unusedVariables false
set_option linter.unusedSimpArgs false
def varEnd (f : Int) (v : Int × Int) : Int × Int := (upN (v.1 + upN f v.2) (max v.2 f), max v.2 f)
/-- By its kind: rc, vr: what its types are, one behind the other, one over the other. -/
def layK (k : Int) (nn nl : Nat) (rc vr : Int × Int) : Int × Int :=
  if k = 0 then (0, 1) else if k = 1 ∨ k = 2 ∨ k = 3 then (1, 1) else if k = 4 ∨ k = 5 then (2, 2) else if k = 8 ∨ k = 9 then (8, 8) else if k = 11 ∨ k = 12 then (8, 4)
  else if k = 19 then (bytesN (2 ^ nn), bytesN (2 ^ nn)) else if k = 13 ∨ k = 14 then (upN rc.1 rc.2, rc.2) else if k = 15 ∨ k = 18 then varEnd (bytesN nl) vr
  else if k = 16 then varEnd (bytesN nn) (0, 1) else if k = 17 then varEnd (bytesN (nl + 1 : Nat)) vr else (4, 4)
mutual
/-- A type's size and alignment. -/
def layN : Ty → Int × Int
  | .mk k _ ns _ l _ => layK k ns.length l.length (recF 0 1 l) (varF 0 1 l)
def recF : Int → Int → List Ty → Int × Int
  | s, a, [] => (s, a)
  | s, a, t :: ts => recF (upN s (layN t).2 + (layN t).1) (max a (layN t).2) ts
def varF : Int → Int → List Ty → Int × Int
  | s, a, [] => (s, a)
  | s, a, t :: ts => varF (max s (layN t).1) (max a (layN t).2) ts
end
theorem layN_eq (t : Ty) : layN t = layK t.kind t.names.length t.l.length (recF 0 1 t.l) (varF 0 1 t.l) := by cases t; rfl
theorem layN_ty0 : layN ty0 = (0, 1) := rfl
theorem layN_zero {t : Ty} (h : t.kind = 0) : layN t = (0, 1) := by rw [layN_eq, h]; rfl
theorem varF_rep (n : Nat) : varF 0 1 (List.replicate n ty0) = (0, 1) := by
  induction n with
  | zero => rfl
  | succ n ih => rw [List.replicate_succ, varF, layN_ty0]; exact ih
theorem layN_plain (t : Ty) (z : Bool) : layN (plainT z t) = layN t := by
  rw [plainT]
  split
  · rename_i h; rw [layN_eq t, h]; rfl
  · split
    · rename_i h; rw [layN_eq t, h, layN_eq]
      show layK 15 _ (List.replicate t.names.length ty0).length _ (varF 0 1 (List.replicate t.names.length ty0)) = _
      rw [varF_rep, List.length_replicate]; rfl
    · split
      · rename_i h; rw [layN_eq t, h]; rfl
      · split
        · rename_i h; rw [layN_eq t, h]; rfl
        · rfl
/-- 1, 2, 4, 8. -/
def P2 (a : Int) : Prop := a = 1 ∨ a = 2 ∨ a = 4 ∨ a = 8
theorem P2.max {a b : Int} (h : P2 a) (k : P2 b) : P2 (max a b) := by
  rcases h with rfl | rfl | rfl | rfl <;> rcases k with rfl | rfl | rfl | rfl <;> simp [P2] <;> decide
theorem P2.pos {a : Int} (h : P2 a) : 1 ≤ a ∧ a ≤ 8 := by rcases h with rfl | rfl | rfl | rfl <;> decide
theorem bytesN_P (n : Int) : P2 (bytesN n) ∧ bytesN n ≤ 4 := by
  unfold bytesN P2; split
  · simp
  · split <;> simp
theorem up8 {f a : Int} (h : P2 f) (h4 : f ≤ 4) (k : P2 a) : upN f a ≤ 8 := by
  rcases h with rfl | rfl | rfl | rfl <;> rcases k with rfl | rfl | rfl | rfl <;> first | decide | omega
/-- How many types it is, as its owner counts. -/
def pw (t : Ty) : Int := if t.kind = 0 then 0 else partsN t
theorem pw_nonneg (t : Ty) : 0 ≤ pw t := by have := partsN_le t; unfold pw; split <;> omega
theorem partsGo_cons {n : Int} {t : Ty} {ts : List Ty} (h : n ≤ 500) : partsGo n (t :: ts) = partsGo (n + pw t) ts := by
  rw [partsGo, if_pos h, pw]
  by_cases e : t.kind = 0
  · simp [e]
  · simp [e]
theorem partsGo_pw {n : Int} {t : Ty} {ts : List Ty} (h : partsGo n (t :: ts) ≤ 500) : n + pw t ≤ 500 ∧ n ≤ 500 := by
  have h1 := partsGo_le n (t :: ts)
  have h2 := partsGo_cons (t := t) (ts := ts) (show n ≤ 500 by omega)
  have h3 := partsGo_le (n + pw t) ts
  omega
/-- Its size and alignment are small. -/
structure Sm (t : Ty) : Prop where
  al : P2 (layN t).2
  s0 : 0 ≤ (layN t).1
  s1 : (layN t).1 ≤ max 0 (16 * pw t - 8)
theorem upN_bd {n k : Int} (h : 0 ≤ n) (hk : P2 k) : n ≤ upN n k ∧ upN n k ≤ n + 7 := by
  have h1 := hk.pos
  have := upN_le h (show 0 < k by omega)
  omega
theorem recF_sm : ∀ (l : List Ty) (s a n : Int), (∀ t ∈ l, Sm t) → P2 a → 0 ≤ s → s ≤ 16 * (n - 1) → partsGo n l ≤ 500 → P2 (recF s a l).2 ∧ 0 ≤ (recF s a l).1 ∧ (recF s a l).1 ≤ 16 * (partsGo n l - 1)
  | [], s, a, n, _, h1, h2, h3, h4 => ⟨h1, h2, by simpa [recF, partsGo] using h3⟩
  | t :: ts, s, a, n, hs, h1, h2, h3, h4 => by
    have ht := hs t (by simp)
    obtain ⟨h5, h6⟩ := partsGo_pw h4
    have h7 := partsGo_cons (t := t) (ts := ts) h6
    have h8 := upN_bd h2 ht.al
    have h9 := ht.s0
    have h10 := ht.s1
    have h11 := pw_nonneg t
    rw [recF, h7]
    refine recF_sm ts _ _ _ (fun x hx => hs x (by simp [hx])) (h1.max ht.al) (by omega) ?_ (by rw [← h7]; exact h4)
    by_cases e : pw t = 0
    · have : upN s (layN t).2 = s := by
        have hk : t.kind = 0 := by
          unfold pw at e; split at e
          · assumption
          · have := partsN_le t; omega
        rw [layN_zero hk]; simp [upN]
      omega
    · omega
theorem varF_sm : ∀ (l : List Ty) (s a n : Int), (∀ t ∈ l, Sm t) → 1 ≤ n → P2 a → 0 ≤ s → s ≤ max 0 (16 * (n - 1) - 8) → partsGo n l ≤ 500 → P2 (varF s a l).2 ∧ 0 ≤ (varF s a l).1 ∧ (varF s a l).1 ≤ max 0 (16 * (partsGo n l - 1) - 8)
  | [], s, a, n, _, h0, h1, h2, h3, h4 => ⟨h1, h2, by simpa [varF, partsGo] using h3⟩
  | t :: ts, s, a, n, hs, h0, h1, h2, h3, h4 => by
    have ht := hs t (by simp)
    obtain ⟨h5, h6⟩ := partsGo_pw h4
    have h7 := partsGo_cons (t := t) (ts := ts) h6
    have h9 := ht.s0
    have h10 := ht.s1
    have h11 := pw_nonneg t
    rw [varF, h7]
    refine varF_sm ts _ _ _ (fun x hx => hs x (by simp [hx])) (by omega) (h1.max ht.al) (by omega) (by omega) (by rw [← h7]; exact h4)
theorem upup {f a : Int} (h : P2 f) (h4 : f ≤ 4) (k : P2 a) : upN (upN f a) (max a f) ≤ 8 := by
  rcases h with rfl | rfl | rfl | rfl <;> rcases k with rfl | rfl | rfl | rfl <;> first | decide | omega
theorem varEnd_sm {f : Int} {v : Int × Int} {N : Int} (hf : P2 f ∧ f ≤ 4) (hv : P2 v.2) (h0 : 0 ≤ v.1) (hN : 1 ≤ N) (h1 : v.1 ≤ max 0 (16 * (N - 1) - 8)) : P2 (varEnd f v).2 ∧ 0 ≤ (varEnd f v).1 ∧ (varEnd f v).1 ≤ 16 * N - 8 := by
  have h2 := up8 hf.1 hf.2 hv
  have h3 := upup hf.1 hf.2 hv
  have h4 := upN_bd (n := f) (by have := hf.1.pos; omega) hv
  have h5 := upN_bd (n := v.1 + upN f v.2) (by have := hf.1.pos; omega) (hv.max hf.1)
  have h6 := hf.1.pos
  refine ⟨hv.max hf.1, by show 0 ≤ upN _ _; omega, ?_⟩
  show upN (v.1 + upN f v.2) (max v.2 f) ≤ _
  by_cases e : v.1 = 0
  · rw [e, Int.zero_add]; omega
  · omega
theorem P2_1 : P2 1 := .inl rfl
mutual
theorem layN_sm : ∀ t : Ty, (t.kind ≠ 0 → partsN t ≤ 500) → Sm t
  | .mk k nn ns nl l r, h => by
    by_cases hk : k = 0
    · have hz : layN (.mk k nn ns nl l r) = (0, 1) := layN_zero hk
      refine ⟨?_, ?_, ?_⟩ <;> rw [hz]
      · exact P2_1
      · exact Int.le_refl _
      · show (0 : Int) ≤ _; omega
    · have hp : partsGo 1 l ≤ 500 := by have := h hk; rwa [partsN] at this
      have hg := partsGo_le 1 l
      have hel := layNs_sm l 1 hp (by omega)
      have hr := recF_sm l 0 1 1 hel P2_1 (by omega) (by omega) hp
      have hv := varF_sm l 0 1 1 hel (by omega) P2_1 (by omega) (by omega) hp
      have hpw : pw (.mk k nn ns nl l r) = partsGo 1 l := by
        show (if k = 0 then 0 else partsN _) = _
        rw [if_neg hk, partsN]
      have hu := upN_bd hr.2.1 hr.1
      have key : P2 (layN (.mk k nn ns nl l r)).2 ∧ 0 ≤ (layN (.mk k nn ns nl l r)).1 ∧ (layN (.mk k nn ns nl l r)).1 ≤ 16 * partsGo 1 l - 8 := by
        rw [layN, layK]
        have b1 := bytesN_P (2 ^ ns.length)
        have b2 := b1.1.pos
        have v1 := varEnd_sm (bytesN_P l.length) hv.1 hv.2.1 hg.1 hv.2.2
        have v2 := varEnd_sm (bytesN_P ns.length) (v := (0, 1)) P2_1 (by show (0 : Int) ≤ 0; omega) hg.1 (by show (0 : Int) ≤ _; omega)
        have v3 := varEnd_sm (bytesN_P (l.length + 1 : Nat)) hv.1 hv.2.1 hg.1 hv.2.2
        rw [if_neg hk]
        split
        · refine ⟨P2_1, ?_, ?_⟩ <;> simp <;> omega
        split
        · refine ⟨.inr (.inl rfl), ?_, ?_⟩ <;> simp <;> omega
        split
        · refine ⟨.inr (.inr (.inr rfl)), ?_, ?_⟩ <;> simp <;> omega
        split
        · refine ⟨.inr (.inr (.inl rfl)), ?_, ?_⟩ <;> simp <;> omega
        split
        · exact ⟨b1.1, by show 0 ≤ bytesN _; omega, by show bytesN _ ≤ _; omega⟩
        split
        · exact ⟨hr.1, by show 0 ≤ upN _ _; omega, by show upN _ _ ≤ _; omega⟩
        split
        · exact v1
        split
        · exact v2
        split
        · exact v3
        · refine ⟨.inr (.inr (.inl rfl)), ?_, ?_⟩ <;> simp <;> omega
      exact ⟨key.1, key.2.1, by rw [hpw]; have := key.2.2; omega⟩
theorem layNs_sm : ∀ (l : List Ty) (n : Int), partsGo n l ≤ 500 → 1 ≤ n → ∀ t ∈ l, Sm t
  | [], n, _, _, t, h => by simp at h
  | x :: xs, n, hp, hn, t, h => by
    obtain ⟨h1, h2⟩ := partsGo_pw hp
    have h3 := partsGo_cons (t := x) (ts := xs) h2
    rcases List.mem_cons.1 h with e | e
    · rw [e]
      refine layN_sm x fun hk => ?_
      have h4 : pw x = partsN x := by rw [pw, if_neg hk]
      omega
    · exact layNs_sm xs _ (by rw [← h3]; exact hp) (by have := pw_nonneg x; omega) t e
end
end Go.Proofs.YtaplmmhkpljmkaaDoor
