/- What an argument reads as, is a tree: types, functions' types. -/
import Derived.Test.YtdiimgkopknbcaaGreatDoorK4
import Derived.Test.YtdiimgkopknbcaaGreatDoorK5
namespace Go.Proofs.YtdiimgkopknbcaaGreatDoor
open Go E
set_option maxRecDepth 100000
set_option maxHeartbeats 4000000
set_option linter.unusedVariables false
set_option linter.unusedSimpArgs false
section
variable {H : Type} {enc : TypeId × Value → H} {w : World} {spare : Nat → Bool} {held : Bool}
theorem encTy_flat (t : Ty) : (encTy t).leaves.length = 4 ∧ (encTy t).flatL = true := by rw [encTy_eta]; exact ⟨rfl, rfl⟩
theorem encTys_map (l : List Ty) : encTys l = l.map encTy := by
  induction l with
  | nil => rfl
  | cons t l ih => simp [encTys, ih]
theorem smalls_of : ∀ {l : List Ty}, (∀ t, t ∈ l → small t) → smalls l
  | [], _ => trivial
  | t :: l, h => ⟨h t (by simp), smalls_of fun x hx => h x (by simp [hx])⟩
/-- A list of names, of types. -/
theorem rd_names {n : Nat} {cs : List Value} {d : DataW H} {ps : List MemPlace} (h : DataW.trod enc Tryz.prog w 0 spare held n 22 cs = some (d, ps)) :
    ∃ (v : Value) (nl : Bool) (xs : List ByteArray), cs = [v] ∧ TR (memOf w) (.sl nl (xs.map tStr)) v ∧ (Rows.uptoBulk d ≤ big → xs.length ≤ big ∧ ∀ s, s ∈ xs → s.size ≤ big) := by
  cases n with
  | zero => simp [DataW.trod] at h
  | succ n =>
    obtain ⟨v, nl, xs, es, h1, h2, h3, h4, h5⟩ := rd_slice (α := ByteArray) (m := 1) (ft := tStr) (good := fun s d => Rows.uptoBulk d = s.size + 1) Tryz.underlying22 (by kernel_rfl) (by decide) tStr_flat (fun cs d ps h => by
      obtain ⟨s, rfl, h2⟩ := rd_str h
      exact ⟨s, ⟨rfl, fun j p hp => by
        cases j with
        | zero => simp [tStr, T.leaves] at hp; subst hp; exact ⟨_, rfl, .v rfl⟩
        | succ j => simp [tStr, T.leaves] at hp⟩, h2⟩) h
    have hl := bulk_len es
    refine ⟨v, nl, xs, h1, h2, fun hb => ⟨by omega, fun s hs => ?_⟩⟩
    obtain ⟨i, hi⟩ := List.mem_iff_getElem?.1 hs
    have hil := (List.getElem?_eq_some_iff.1 hi).1
    have he := List.getElem?_eq_getElem (show i < es.length by omega)
    have := h5 i s _ hi he
    have := bulk_get he
    omega
theorem rd_types {n : Nat} (ih : ∀ cs (d : DataW H) ps, DataW.trod enc Tryz.prog w 0 spare held n 25 cs = some (d, ps) → ∃ t, Rd (memOf w) (encTy t) cs ∧ (Rows.uptoBulk d ≤ big → small t)) {cs : List Value} {d : DataW H} {ps : List MemPlace}
    (h : DataW.trod enc Tryz.prog w 0 spare held (n + 1) 23 cs = some (d, ps)) :
    ∃ (v : Value) (nl : Bool) (xs : List Ty), cs = [v] ∧ TR (memOf w) (.sl nl (encTys xs)) v ∧ (Rows.uptoBulk d ≤ big → xs.length ≤ big ∧ smalls xs) := by
  obtain ⟨v, nl, xs, es, h1, h2, h3, h4, h5⟩ := rd_slice (α := Ty) (m := 4) (ft := encTy) (good := fun t d => Rows.uptoBulk d ≤ big → small t) Tryz.underlying23 (by kernel_rfl) (by decide) encTy_flat (fun cs d ps h => ih cs d ps h) h
  have hl := bulk_len es
  refine ⟨v, nl, xs, h1, by rw [encTys_map]; exact h2, fun hb => ⟨by omega, smalls_of fun t ht => ?_⟩⟩
  obtain ⟨i, hi⟩ := List.mem_iff_getElem?.1 ht
  have hil := (List.getElem?_eq_some_iff.1 hi).1
  have he := List.getElem?_eq_getElem (show i < es.length by omega)
  exact h5 i t _ hi he (by have := bulk_get he; omega)
theorem rd_ty : ∀ (n : Nat) (cs : List Value) (d : DataW H) (ps : List MemPlace), DataW.trod enc Tryz.prog w 0 spare held n 25 cs = some (d, ps) → ∃ t, Rd (memOf w) (encTy t) cs ∧ (Rows.uptoBulk d ≤ big → small t) := by
  intro n
  induction n using Nat.strongRecOn with
  | _ n ih =>
    intro cs d ps h
    cases n with
    | zero => simp [DataW.trod] at h
    | succ n =>
      have c3 : Tryz.prog.cellsOf 3 = 1 := by kernel_rfl
      have c22 : Tryz.prog.cellsOf 22 = 1 := by kernel_rfl
      have c23 : Tryz.prog.cellsOf 23 = 1 := by kernel_rfl
      have c25 : Tryz.prog.cellsOf 25 = 4 := by kernel_rfl
      simp only [DataW.trod, Tryz.underlying25, c25] at h
      split at h
      · rename_i hl
        simp only [List.mapM_cons, List.mapM_nil, c3, c22, c23, Option.bind_eq_bind, Option.bind_eq_some_iff, Option.map_eq_some_iff, Option.pure_def, Option.some.injEq, List.drop_zero] at h
        obtain ⟨_, ⟨x0, t0, _, ⟨x1, t1, _, ⟨x2, t2, _, ⟨x3, t3, _, rfl, rfl⟩, rfl⟩, rfl⟩, rfl⟩, he⟩ := h
        obtain ⟨rfl, _⟩ := Prod.mk.inj he
        cases n with
        | zero => simp [DataW.trod] at t0
        | succ n =>
          obtain ⟨k, e0⟩ := rd_int t0
          obtain ⟨v1, nn, ns, e1, q1, s1⟩ := rd_names t1
          obtain ⟨v2, nl, xs, e2, q2, s2⟩ := rd_types (ih n (by omega)) t2
          obtain ⟨r, e3⟩ := rd_int t3
          have g0 := get1 (i := 0) (by simpa using e0)
          have g1 := get1 e1
          have g2 := get1 e2
          have g3 := get1 e3
          refine ⟨.mk k nn ns nl xs r, ⟨by rw [leaves_encTy]; exact hl.symm, fun j p hp => ?_⟩, fun hb => ?_⟩
          · rw [encTy] at hp
            simp only [T.leaves] at hp
            match j, hp with
            | 0, hp => cases hp; exact ⟨_, g0, .v rfl⟩
            | 1, hp => cases hp; exact ⟨_, g1, q1⟩
            | 2, hp => cases hp; exact ⟨_, g2, q2⟩
            | 3, hp => cases hp; exact ⟨_, g3, .v rfl⟩
            | j + 4, hp => simp at hp
          · simp only [Rows.uptoBulk, List.map_cons, List.map_nil, Rows.uptoBulkAll] at hb
            have m1 := s1 (by omega)
            have m2 := s2 (by omega)
            exact ⟨m1.1, m1.2, m2.1, m2.2⟩
      · cases h
end
end Go.Proofs.YtdiimgkopknbcaaGreatDoor
