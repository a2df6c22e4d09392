/- A value that is an argument reads as a tree. -/
import Derived.Test.YtdiimgkopknbcaaGreatDoorK5
import Derived.Test.YtdiimgkopknbcaaGreatDoorK10
namespace Go.Proofs.YtdiimgkopknbcaaGreatDoor
open Go E
set_option maxRecDepth 100000
set_option maxHeartbeats 4000000
set_option linter.unusedVariables false
set_option linter.unusedSimpArgs false
section
variable {H : Type} {enc : TypeId × Value → H} {w : World} {spare : Nat → Bool} {held : Bool}
theorem rd_num {n : Nat} {cs : List Value} {d : DataW H} {ps : List MemPlace} (h : DataW.trod enc Tryz.prog w 0 spare held n 3 cs = some (d, ps)) : ∃ k, cs = [.int .i64 k] ∧ inI k := by
  cases n with
  | zero => simp [DataW.trod] at h
  | succ n =>
    rcases cs with _ | ⟨v, _ | ⟨v2, tl⟩⟩
    · simp [DataW.trod, Tryz.underlying3] at h
    · cases v <;> simp [DataW.trod, Tryz.underlying3] at h
      rename_i q k
      obtain ⟨⟨rfl, hw⟩, _⟩ := h
      refine ⟨k, rfl, ?_⟩
      have e1 : IntKind.i64.min = -9223372036854775808 := by decide
      have e2 : IntKind.i64.max = 9223372036854775807 := by decide
      simp only [Lit.wf, Bool.and_eq_true, decide_eq_true_eq, e1, e2] at hw
      unfold inI
      omega
    · simp [DataW.trod, Tryz.underlying3] at h
theorem tInt_flat (k : Int) : (tInt k).leaves.length = 1 ∧ (tInt k).flatL = true := ⟨rfl, rfl⟩
/-- A list of numbers. -/
theorem rd_nums {n : Nat} {cs : List Value} {d : DataW H} {ps : List MemPlace} (h : DataW.trod enc Tryz.prog w 0 spare held n 26 cs = some (d, ps)) :
    ∃ (v : Value) (nl : Bool) (xs : List Int), cs = [v] ∧ TR (memOf w) (.sl nl (xs.map tInt)) v ∧ (∀ x, x ∈ xs → inI x) ∧ xs.length + 1 ≤ Rows.uptoBulk d := by
  cases n with
  | zero => simp [DataW.trod] at h
  | succ n =>
    obtain ⟨v, nl, xs, es, h1, h2, h3, h4, h5⟩ := rd_slice (α := Int) (m := 1) (ft := tInt) (good := fun k d => inI k) Tryz.underlying26 (by kernel_rfl) (by decide) tInt_flat (fun cs d ps h => by
      obtain ⟨k, rfl, hk⟩ := rd_num h
      exact ⟨k, ⟨rfl, fun j p hp => by
        cases j with
        | zero => simp [tInt, T.leaves] at hp; subst hp; exact ⟨_, rfl, .v rfl⟩
        | succ j => simp [tInt, T.leaves] at hp⟩, hk⟩) h
    have hl := bulk_len es
    refine ⟨v, nl, xs, h1, h2, fun s hs => ?_, by omega⟩
    obtain ⟨i, hi⟩ := List.mem_iff_getElem?.1 hs
    have hil := (List.getElem?_eq_some_iff.1 hi).1
    exact h5 i s _ hi (List.getElem?_eq_getElem (show i < es.length by omega))
theorem rd_vals {n : Nat} (ih : ∀ cs (d : DataW H) ps, DataW.trod enc Tryz.prog w 0 spare held n 29 cs = some (d, ps) → ∃ t, Rd (memOf w) (encVal t) cs ∧ (Rows.uptoBulk d ≤ big → smallV t)) {cs : List Value} {d : DataW H} {ps : List MemPlace}
    (h : DataW.trod enc Tryz.prog w 0 spare held (n + 1) 27 cs = some (d, ps)) :
    ∃ (v : Value) (nl : Bool) (xs : List Val), cs = [v] ∧ TR (memOf w) (.sl nl (encVals xs)) v ∧ (Rows.uptoBulk d ≤ big → xs.length ≤ big ∧ smallVs xs) := by
  obtain ⟨v, nl, xs, es, h1, h2, h3, h4, h5⟩ := rd_slice (α := Val) (m := 3) (ft := encVal) (good := fun t d => Rows.uptoBulk d ≤ big → smallV t) Tryz.underlying27 (by kernel_rfl) (by decide) encVal_flat (fun cs d ps h => ih cs d ps h) h
  have hl := bulk_len es
  refine ⟨v, nl, xs, h1, by rw [encVals_map]; exact h2, fun hb => ⟨by omega, smallVs_of fun t ht => ?_⟩⟩
  obtain ⟨i, hi⟩ := List.mem_iff_getElem?.1 ht
  have hil := (List.getElem?_eq_some_iff.1 hi).1
  have he := List.getElem?_eq_getElem (show i < es.length by omega)
  exact h5 i t _ hi he (by have := bulk_get he; omega)
theorem rd_val : ∀ (n : Nat) (cs : List Value) (d : DataW H) (ps : List MemPlace), DataW.trod enc Tryz.prog w 0 spare held n 29 cs = some (d, ps) → ∃ t, Rd (memOf w) (encVal t) cs ∧ (Rows.uptoBulk d ≤ big → smallV t) := by
  intro n
  induction n using Nat.strongRecOn with
  | _ n ih =>
    intro cs d ps h
    cases n with
    | zero => simp [DataW.trod] at h
    | succ n =>
      have c3 : Tryz.prog.cellsOf 3 = 1 := by kernel_rfl
      have c22 : Tryz.prog.cellsOf 26 = 1 := by kernel_rfl
      have c23 : Tryz.prog.cellsOf 27 = 1 := by kernel_rfl
      have c25 : Tryz.prog.cellsOf 29 = 3 := by kernel_rfl
      simp only [DataW.trod, Tryz.underlying29, c25] at h
      split at h
      · rename_i hl
        simp only [List.mapM_cons, List.mapM_nil, c3, c22, c23, Option.bind_eq_bind, Option.bind_eq_some_iff, Option.map_eq_some_iff, Option.pure_def, Option.some.injEq, List.drop_zero] at h
        obtain ⟨_, ⟨x0, t0, _, ⟨x1, t1, _, ⟨x2, t2, _, rfl, rfl⟩, rfl⟩, rfl⟩, he⟩ := h
        obtain ⟨rfl, _⟩ := Prod.mk.inj he
        cases n with
        | zero => simp [DataW.trod] at t0
        | succ n =>
          obtain ⟨k, e0, i0⟩ := rd_num t0
          obtain ⟨v1, nn, ns, e1, q1, i1, s1⟩ := rd_nums t1
          obtain ⟨v2, nl, xs, e2, q2, s2⟩ := rd_vals (ih n (by omega)) t2
          have g0 := get1 (i := 0) (by simpa using e0)
          have g1 := get1 e1
          have g2 := get1 e2
          refine ⟨.mk k nn ns nl xs, ⟨by rw [leaves_encVal]; exact hl.symm, fun j p hp => ?_⟩, fun hb => ?_⟩
          · rw [encVal] at hp
            simp only [T.leaves] at hp
            match j, hp with
            | 0, hp => cases hp; exact ⟨_, g0, .v rfl⟩
            | 1, hp => cases hp; exact ⟨_, g1, q1⟩
            | 2, hp => cases hp; exact ⟨_, g2, q2⟩
            | j + 3, hp => simp at hp
          · simp only [Rows.uptoBulk, List.map_cons, List.map_nil, Rows.uptoBulkAll] at hb
            have m2 := s2 (by omega)
            exact ⟨i0, by omega, i1, m2.1, m2.2⟩
      · cases h
end
end Go.Proofs.YtdiimgkopknbcaaGreatDoor
