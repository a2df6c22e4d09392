/- Layer 13, the code: core types, Size, Align. -/
import Derived.Test.YtaplmmhkpljmkaaDoorC15
namespace Go.Proofs.YtaplmmhkpljmkaaDoor
open Go E
set_option maxRecDepth 100000
set_option maxHeartbeats 4000000
set_option linter.unusedVariables false
set_option linter.unusedSimpArgs false
attribute [local irreducible] Tri TriL TriO PO VO E.Pure DOb
/-- A list of whole numbers; nil, if there are none. -/
def iT (l : List Int) : T := .sl l.isEmpty (l.map tInt)
def zipJ : List Int → List Int → List Int
  | [], ys => ys
  | x :: xs, [] => x :: xs
  | x :: xs, y :: ys => joinN x y :: zipJ xs ys
theorem zipJ_nil (l : List Int) : zipJ l [] = l := by cases l <;> rfl
def flK (k : Int) (row js : List Int) : List Int :=
  if k = 0 then [] else if k = 8 ∨ k = 9 then [126] else if k = 11 ∨ k = 12 then [127, 127] else if k = 13 ∨ k = 14 then row else if k = 15 ∨ k = 17 ∨ k = 18 then 127 :: js else [127]
mutual
/-- A type's core types. -/
def flN : Ty → List Int
  | .mk k _ _ _ l _ => flK k (rowN l) (joinsN [] l)
def rowN : List Ty → List Int
  | [] => []
  | t :: ts => flN t ++ rowN ts
def joinsN : List Int → List Ty → List Int
  | m, [] => m
  | m, t :: ts => joinsN (zipJ m (flN t)) ts
end
theorem flN_eq (t : Ty) : flN t = flK t.kind (rowN t.l) (joinsN [] t.l) := by cases t; rfl
theorem flN_zero {t : Ty} (h : t.kind = 0) : flN t = [] := by rw [flN_eq, h]; rfl
theorem joinsN_rep (n : Nat) : joinsN [] (List.replicate n ty0) = [] := by
  induction n with
  | zero => rfl
  | succ n ih => rw [List.replicate_succ, joinsN]; exact ih
theorem flN_plain (t : Ty) (z : Bool) : flN (plainT z t) = flN t := by
  rw [plainT]
  split
  · rename_i h; rw [flN_eq t, h]; rfl
  · split
    · rename_i h; rw [flN_eq t, h, flN_eq]
      show 127 :: joinsN [] (List.replicate t.names.length ty0) = _
      rw [joinsN_rep]; rfl
    · split
      · rename_i h; rw [flN_eq t, h]; rfl
      · split
        · rename_i h; rw [flN_eq t, h]; rfl
        · rfl
theorem zipJ_len (a b : List Int) : (zipJ a b).length = max a.length b.length := by
  induction a generalizing b with
  | nil => simp [zipJ]
  | cons x a ih =>
    cases b with
    | nil => simp [zipJ]
    | cons y b => simp [zipJ, ih]
mutual
theorem flN_len : ∀ t : Ty, (t.kind ≠ 0 → partsN t ≤ 500) → ((flN t).length : Int) ≤ 2 * pw t
  | .mk k nn ns nl l r, h => by
    by_cases hk : k = 0
    · rw [flN_zero (t := .mk k nn ns nl l r) hk]; have := pw_nonneg (.mk k nn ns nl l r); simp; omega
    · have hp : partsGo 1 l ≤ 500 := by have := h hk; rwa [partsN] at this
      have hpw : pw (.mk k nn ns nl l r) = partsGo 1 l := by
        show (if k = 0 then 0 else partsN _) = _
        rw [if_neg hk, partsN]
      have h1 := rowN_len l 1 (by omega) hp
      have h2 := joinsN_len l [] 1 (by omega) (by simp) hp
      have h3 := partsGo_le 1 l
      rw [hpw, flN, flK, if_neg hk]
      split
      · simp; omega
      split
      · simp; omega
      split
      · omega
      split
      · simp only [List.length_cons]; omega
      · simp; omega
theorem rowN_len : ∀ (l : List Ty) (n : Int), 1 ≤ n → partsGo n l ≤ 500 → ((rowN l).length : Int) ≤ 2 * (partsGo n l - n)
  | [], n, _, _ => by simp [rowN, partsGo]
  | t :: ts, n, hn, hp => by
    obtain ⟨h1, h2⟩ := partsGo_pw hp
    have h3 := partsGo_cons (t := t) (ts := ts) h2
    rw [h3] at hp ⊢
    have h4 := flN_len t (fun hk => by rw [pw, if_neg hk] at h1; omega)
    have h5 := rowN_len ts (n + pw t) (by have := pw_nonneg t; omega) hp
    rw [rowN, List.length_append]; omega
theorem joinsN_len : ∀ (l : List Ty) (m : List Int) (n : Int), 1 ≤ n → (m.length : Int) ≤ 2 * (n - 1) → partsGo n l ≤ 500 → ((joinsN m l).length : Int) ≤ 2 * (partsGo n l - 1)
  | [], m, n, _, hm, _ => by simpa [joinsN, partsGo] using hm
  | t :: ts, m, n, hn, hm, hp => by
    obtain ⟨h1, h2⟩ := partsGo_pw hp
    have h3 := partsGo_cons (t := t) (ts := ts) h2
    rw [h3] at hp ⊢
    have h4 := flN_len t (fun hk => by rw [pw, if_neg hk] at h1; omega)
    have h5 := pw_nonneg t
    rw [joinsN]
    exact joinsN_len ts _ (n + pw t) (by omega) (by rw [zipJ_len]; omega) hp
end
theorem size_p (HN : LexName) (t : Ty) (hs : small t) : E.Pure Tryd.prog 17 [encTy t] (.one (.t (tInt (if mayB t then (layN t).1 else 0)))) := by
  have hc := check_p HN t hs
  have hl : mayB t = true → E.Pure Tryd.prog 42 [encTy t] (.one (.t (cplx (layN t)))) := fun h => by
    simp only [mayB, Bool.and_eq_true, decide_eq_true_eq] at h
    exact lay_p _ t (Nat.le_refl _) (.inr ⟨0, h.1⟩) (fun _ => h.2)
  have hf : mayB t = true → floatToIntVal .f64 (fl (layN t).1) .i64 = some (layN t).1 := fun h => by
    simp only [mayB, Bool.and_eq_true, decide_eq_true_eq] at h
    have h1 := layN_sm t (fun _ => h.2)
    have h2 := h1.s0
    have h3 := h1.s1
    have h4 : pw t ≤ 500 := by unfold pw; split <;> omega
    exact f2i h2 (by omega)
  refine Pure.of1 Tryd.func17 rfl rfl (Nat.le_of_ble_eq_true rfl) rfl ?_
  rw [encTy_eta t] at *
  cases hm : mayB t with
  | false =>
    simp only [hm] at hc ⊢
    repeat' (first | refine Tri.seq ?_ | refine Tri.reg ?_ | refine TriL.nil ?_ | (apply U.assignT; rfl; trivial; rfl) | (apply U.bin; rfl; trivial; rfl; trivial; rfl; rfl) | (apply U.loadS; rfl; rfl; trivial; rfl; rfl; rfl; rfl; rfl) | (apply U.boxA; rfl; rfl) | refine U.call1 rfl rfl (by assumption) rfl ?_ | refine Tri.ret ?_ | (refine Tri.cond rfl (fun h => ?_) (fun h => ?_) <;> (try simp at h) <;> (try contradiction)) | fail)
    exact Comes1.ret rfl rfl
  | true =>
    simp only [hm] at hc ⊢
    have hl := hl hm
    have hf := hf hm
    repeat' (first | refine Tri.seq ?_ | refine Tri.reg ?_ | refine TriL.nil ?_ | (apply U.assignT; rfl; trivial; rfl) | (apply U.bin; rfl; trivial; rfl; trivial; rfl; rfl) | (apply U.loadS; rfl; rfl; trivial; rfl; rfl; rfl; rfl; rfl) | (apply U.boxA; rfl; rfl) | (apply U.real; rfl; trivial; rfl) | (apply U.f2i; rfl; trivial; exact fun _ => (by assumption); rfl) | refine U.call1 rfl rfl (by assumption) rfl ?_ | refine Tri.skip ?_ | refine Tri.ret ?_ | (refine Tri.cond rfl (fun h => ?_) (fun h => ?_) <;> (try simp at h) <;> (try contradiction)) | fail)
    exact Comes1.ret rfl rfl
theorem align_p (HN : LexName) (t : Ty) (hs : small t) : E.Pure Tryd.prog 19 [encTy t] (.one (.t (tInt (if mayB t then (layN t).2 else 0)))) := by
  have hc := check_p HN t hs
  have hl : mayB t = true → E.Pure Tryd.prog 42 [encTy t] (.one (.t (cplx (layN t)))) := fun h => by
    simp only [mayB, Bool.and_eq_true, decide_eq_true_eq] at h
    exact lay_p _ t (Nat.le_refl _) (.inr ⟨0, h.1⟩) (fun _ => h.2)
  have hf : mayB t = true → floatToIntVal .f64 (fl (layN t).2) .i64 = some (layN t).2 := fun h => by
    simp only [mayB, Bool.and_eq_true, decide_eq_true_eq] at h
    have h1 := (layN_sm t (fun _ => h.2)).al.pos
    exact f2i (by omega) (by omega)
  refine Pure.of1 Tryd.func19 rfl rfl (Nat.le_of_ble_eq_true rfl) rfl ?_
  rw [encTy_eta t] at *
  cases hm : mayB t with
  | false =>
    simp only [hm] at hc ⊢
    repeat' (first | refine Tri.seq ?_ | refine Tri.reg ?_ | refine TriL.nil ?_ | (apply U.assignT; rfl; trivial; rfl) | (apply U.bin; rfl; trivial; rfl; trivial; rfl; rfl) | (apply U.loadS; rfl; rfl; trivial; rfl; rfl; rfl; rfl; rfl) | (apply U.boxA; rfl; rfl) | refine U.call1 rfl rfl (by assumption) rfl ?_ | refine Tri.ret ?_ | (refine Tri.cond rfl (fun h => ?_) (fun h => ?_) <;> (try simp at h) <;> (try contradiction)) | fail)
    exact Comes1.ret rfl rfl
  | true =>
    simp only [hm] at hc ⊢
    have hl := hl hm
    have hf := hf hm
    repeat' (first | refine Tri.seq ?_ | refine Tri.reg ?_ | refine TriL.nil ?_ | (apply U.assignT; rfl; trivial; rfl) | (apply U.bin; rfl; trivial; rfl; trivial; rfl; rfl) | (apply U.loadS; rfl; rfl; trivial; rfl; rfl; rfl; rfl; rfl) | (apply U.boxA; rfl; rfl) | (apply U.imag; rfl; trivial; rfl) | (apply U.f2i; rfl; trivial; exact fun _ => (by assumption); rfl) | refine U.call1 rfl rfl (by assumption) rfl ?_ | refine Tri.skip ?_ | refine Tri.ret ?_ | (refine Tri.cond rfl (fun h => ?_) (fun h => ?_) <;> (try simp at h) <;> (try contradiction)) | fail)
    exact Comes1.ret rfl rfl
end Go.Proofs.YtaplmmhkpljmkaaDoor
