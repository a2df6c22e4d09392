/- Layer 13, the code: Flat, Places; the reference's Same. -/
import Derived.Test.YtaplmmhkpljmkaaDoorC17
namespace Go.Proofs.YtaplmmhkpljmkaaDoor
open Go E
set_option maxRecDepth 100000
set_option maxHeartbeats 4000000
set_option linter.unusedVariables false
set_option linter.unusedSimpArgs false
attribute [local irreducible] Tri TriL TriO PO VO E.Pure DOb
/-- What is known of a type that may be somewhere, as Plain. -/
structure Pl (t : Ty) : Prop where
  dim : Dim t
  len : (plainT false t).l.length ≤ 65
  sum : partsGo 1 t.l ≤ 500
  sum2 : partsGo 1 (plainT false t).l ≤ 500
  el : ∀ x ∈ t.l, Vd x ∧ (x.kind ≠ 0 → partsN x ≤ 500)
theorem Vd.pl {t : Ty} (hv : Vd t) (hp : t.kind ≠ 0 → partsN t ≤ 500) : Pl t := by
  have hd := hv.dim
  have hx := plainT_len (z := false) hd
  have hz : t.kind = 0 → t.l = [] := fun hk => by
    rcases hv with h | ⟨n, h⟩
    · exact (noneT_spec h).2.1
    · have := deepB_own h; simp [ownB, hk] at this
  have hsum : partsGo 1 t.l ≤ 500 := by
    by_cases hk : t.kind = 0
    · rw [hz hk]; decide
    · rw [← partsN_eq]; exact hp hk
  have hsum2 : partsGo 1 (plainT false t).l ≤ 500 := by
    by_cases hk : t.kind = 16
    · have : (plainT false t).l = List.replicate t.names.length ty0 := by rw [plainT, if_neg (by omega), if_pos hk]; rfl
      rw [this, partsGo_rep]; omega
    · rw [partsGo_plain t false hk]; exact hsum
  exact ⟨hd, hx.1, hsum, hsum2, fun x hx => ⟨hv.el hx, pw_el hsum hx⟩⟩
theorem may_vd {t : Ty} (h : mayB t = true) : Vd t ∧ (t.kind ≠ 0 → partsN t ≤ 500) := by
  simp only [mayB, Bool.and_eq_true, decide_eq_true_eq] at h
  exact ⟨.inr ⟨0, h.1⟩, fun _ => h.2⟩
theorem flat0_p : E.Pure Tryd.prog 39 [encTy ty0] (.one (.t (iT []))) :=
  flat_core ty0 ty0 (plain_p ty0 (by decide) (by decide)) (by decide) (by decide) (fun i h => absurd h (Nat.not_lt_zero i)) (fun y hy => by cases hy) (by decide) (by decide)
theorem flat_p : ∀ (m : Nat) (t : Ty), SizeOf.sizeOf t ≤ m → Vd t → (t.kind ≠ 0 → partsN t ≤ 500) → E.Pure Tryd.prog 39 [encTy t] (.one (.t (iT (flN t)))) := by
  intro m
  induction m with
  | zero => intro t hm; cases t; simp at hm
  | succ m ih =>
    intro t hm hv hp
    have h := hv.pl hp
    have hr := rowN_len _ 1 (by omega) h.sum2
    have hj := joinsN_len _ [] 1 (by omega) (by simp) h.sum2
    have hs2 := h.sum2
    rw [← flN_plain t false, flN_eq]
    refine flat_core t (plainT false t) (plain_p t h.dim.nm h.dim.l) (plainT_kind t false) h.len (fun i hi => ?_) (fun y hy => ?_) (by omega) (by omega)
    · have hmem := List.getElem_mem hi
      rw [show agTy (plainT false t).l[i] = encTy (plainT false t).l[i] from (encTy_eta _).symm]
      rcases plainT_el hmem with e | e
      · rw [e]; exact flat0_p
      · exact ih _ (by have h1 := List.sizeOf_lt_of_mem e; have h2 : SizeOf.sizeOf t.l < SizeOf.sizeOf t := by cases t; simp [Ty.l]; omega
                       omega) (h.el _ e).1 (h.el _ e).2
    · rcases plainT_el hy with e | e
      · rw [e]; decide
      · have h1 := flN_len y (h.el _ e).2
        have h2 : pw y ≤ 500 := by
          by_cases hk : y.kind = 0
          · rw [pw, if_pos hk]; omega
          · rw [pw, if_neg hk]; exact (h.el _ e).2 hk
        omega
theorem Flat_p (HN : LexName) (t : Ty) (hs : small t) : E.Pure Tryd.prog 15 [encTy t] (.one (.t (iT (if mayB t then flN t else [])))) := by
  have hc := check_p HN t hs
  have hl : mayB t = true → E.Pure Tryd.prog 39 [encTy t] (.one (.t (iT (flN t)))) := fun h => flat_p _ t (Nat.le_refl _) (may_vd h).1 (may_vd h).2
  refine Pure.of1 Tryd.func15 rfl rfl (Nat.le_of_ble_eq_true rfl) rfl ?_
  rw [encTy_eta t] at *
  cases hm : mayB t with
  | false =>
    simp only [hm] at hc ⊢
    repeat' (first | refine Tri.seq ?_ | refine Tri.reg ?_ | refine TriL.nil ?_ | (apply U.assignT; rfl; trivial; rfl) | (apply U.bin; rfl; trivial; rfl; trivial; rfl; rfl) | (apply U.loadS; rfl; rfl; trivial; rfl; rfl; rfl; rfl; rfl) | (apply U.boxA; rfl; rfl) | refine U.call1 rfl rfl (by assumption) rfl ?_ | refine Tri.ret ?_ | (refine Tri.cond rfl (fun h => ?_) (fun h => ?_) <;> (try simp at h) <;> (try contradiction)) | fail)
    exact Comes1.ret rfl rfl
  | true =>
    simp only [hm] at hc ⊢
    have hl := hl hm
    repeat' (first | refine Tri.seq ?_ | refine Tri.reg ?_ | refine TriL.nil ?_ | (apply U.assignT; rfl; trivial; rfl) | (apply U.bin; rfl; trivial; rfl; trivial; rfl; rfl) | (apply U.loadS; rfl; rfl; trivial; rfl; rfl; rfl; rfl; rfl) | (apply U.boxA; rfl; rfl) | refine U.call1 rfl rfl (by assumption) rfl ?_ | refine Tri.skip ?_ | refine Tri.ret ?_ | (refine Tri.cond rfl (fun h => ?_) (fun h => ?_) <;> (try simp at h) <;> (try contradiction)) | fail)
    exact Comes1.ret rfl rfl
theorem same_p (a b : List Int) (n1 n2 : Bool) (h1 : a.length ≤ big) (h2 : b.length ≤ big) : E.Pure Tryd.prog 13 [.sl n1 (a.map tInt), .sl n2 (b.map tInt)] (.one (.t (tBool (decide (a = b))))) := by
  unfold big at h1 h2
  have hla : (a.map tInt).length = a.length := by simp
  have hlb : (b.map tInt).length = b.length := by simp
  refine Pure.of1 Tryd.func13 rfl rfl (Nat.le_of_ble_eq_true rfl) rfl ?_
  repeat' (first | refine Tri.seq ?_ | refine Tri.reg ?_ | refine TriL.nil ?_ | (apply U.moveT; rfl; trivial; rfl) | (apply U.assignT; rfl; trivial; rfl) | (apply U.bin; rfl; trivial; rfl; trivial; rfl; rfl) | (apply U.len; rfl; trivial; rfl) | refine Tri.skip ?_ | refine Tri.block ?_ | refine Tri.ret ?_ | (refine Tri.cond rfl (fun h => ?_) (fun h => ?_) <;> (try simp at h) <;> (try contradiction)) | fail)
  · refine Comes1.ret rfl (retB ?_)
    have : a ≠ b := fun e => by subst e; simp at *
    simp [this]
  · have hab : a.length = b.length := by simp at *; omega
    refine Tri.loopS (α := Nat) (fun i => ⟨[(5, .t (tInt i)), (1, .t (.sl n2 (b.map tInt))), (0, .t (.sl n1 (a.map tInt)))], Tryd.f13.ntmps, [], 0, 0⟩)
      (fun i => i ≤ a.length ∧ a.take i = b.take i) (fun i => a.length - i) 0 ?_ ?_ ?_
    · exact ⟨Nat.zero_le _, rfl⟩
    · exact Sub.of rfl rfl ⟨rfl, rfl, rfl, trivial⟩ trivial
    · rintro i ⟨hi, ht⟩
      repeat' (first | refine Tri.seq ?_ | refine Tri.reg ?_ | refine TriL.nil ?_ | (apply U.moveT; rfl; trivial; rfl) | (apply U.assignT; rfl; trivial; rfl) | (apply U.bin; rfl; trivial; rfl; trivial; rfl; rfl) | (apply U.len; rfl; trivial; rfl) | refine Tri.skip ?_ | refine Tri.block ?_ | refine Tri.exit ?_ | refine Tri.ret ?_ | (refine Tri.cond rfl (fun h => ?_) (fun h => ?_) <;> (try simp at h) <;> (try contradiction)) | fail)
      · have hia : i < a.length := by omega
        have hib : i < b.length := by omega
        have hga : (a.map tInt)[((i : Nat) : Int).toNat]? = some (tInt a[i]) := by simp [hia]
        have hgb : (b.map tInt)[((i : Nat) : Int).toNat]? = some (tInt b[i]) := by simp [hib]
        refine Tri.regD [] mixed (by kernel_rfl) ?_
        repeat' (first | refine Tri.seq ?_ | refine Tri.reg ?_ | refine TriL.nil ?_ | exact ⟨rfl, rfl, rfl⟩ | (apply D.v; rfl; rfl; rfl) | refine D.nil ?_ | (apply U.moveT; rfl; trivial; rfl) | (apply U.assignT; rfl; trivial; rfl) | (apply U.add; rfl; trivial; rfl; trivial; exact fun _ => wrap_i64 (by omega) (by omega); rfl) | (apply U.bin; rfl; trivial; rfl; trivial; rfl; rfl) | (apply U.loadE; rfl; rfl; trivial; rfl; rfl) | (apply U.idx; rfl; trivial; rfl; trivial; exact fun _ => (by omega); exact fun _ => (by assumption); exact fun _ => rfl; rfl) | refine Tri.skip ?_ | refine Tri.ret ?_ | (refine Tri.cond rfl (fun h => ?_) (fun h => ?_) <;> (try simp at h) <;> (try contradiction)) | fail)
        · refine Comes1.ret rfl (retB ?_)
          have : a ≠ b := fun e => by subst e; simp at *
          simp [this]
        · refine ⟨i + 1, ⟨by omega, ?_⟩, by omega, Sub.of rfl rfl ⟨rfl, rfl, rfl, trivial⟩ trivial⟩
          rw [List.take_succ_eq_append_getElem hia, List.take_succ_eq_append_getElem hib, ht]
          congr 2
          all_goals (simp at *; omega)
      · refine Comes1.ret rfl (retB ?_)
        have : i = a.length := by omega
        subst this
        rw [List.take_length, hab, List.take_length] at ht
        simp [ht]
end Go.Proofs.YtaplmmhkpljmkaaDoor
