/- lex.Name. -/
import Derived.Test.YtaplmmhkpljmkaaDoorL2
import Derived.Test.YtaplmmhkpljmkaaDoorC21
import Derived.Test.YtaplmmhkpljmkaaDoorC7
namespace Go.Proofs.YtaplmmhkpljmkaaDoor
open Go Go.RowKit Go.Shelf E
attribute [local go_sem] Oper.semAt_some
set_option maxHeartbeats 4000000
set_option maxRecDepth 100000
set_option linter.unusedVariables false
set_option linter.unusedSimpArgs false
theorem kind_all : ∀ n : Fin 256, (kindOf (UInt8.ofNat n.val).toNat = 1 ↔ lowB (UInt8.ofNat n.val) = true) ∧ (kindOf (UInt8.ofNat n.val).toNat = 2 ↔ uppB (UInt8.ofNat n.val) = true) ∧ (kindOf (UInt8.ofNat n.val).toNat = 3 ↔ digB (UInt8.ofNat n.val) = true) ∧ (kindOf (UInt8.ofNat n.val).toNat = 4 ↔ UInt8.ofNat n.val = 45) ∧
    (lowB (UInt8.ofNat n.val) = true → uppB (UInt8.ofNat n.val) = false) := by decide +kernel
theorem kind_spec (c : UInt8) : (kindOf c.toNat = 1 ↔ lowB c = true) ∧ (kindOf c.toNat = 2 ↔ uppB c = true) ∧ (kindOf c.toNat = 3 ↔ digB c = true) ∧ (kindOf c.toNat = 4 ↔ c = 45) ∧ (lowB c = true → uppB c = false) := by
  have h := kind_all ⟨c.toNat, c.toNat_lt⟩
  simpa using h
theorem splitL_cons (c : UInt8) (cs : List UInt8) (h : c ≠ 45) : ∃ p ps, splitL cs = p :: ps ∧ splitL (c :: cs) = (c :: p) :: ps := by
  cases hs : splitL cs with
  | nil => exact absurd hs (splitL_ne cs)
  | cons p ps => exact ⟨p, ps, rfl, by rw [splitL, if_neg h, hs]⟩
theorem nmGo_split : ∀ l : List UInt8, (∀ z, nmGo true z l = (splitL l).all partOk) ∧ (∀ z p ps, z = 1 ∨ z = 2 → splitL l = p :: ps → nmGo false z l = (restOk (decide (z = 1)) p && ps.all partOk))
  | [] => ⟨fun z => rfl, fun z p ps _ h => by simp [splitL] at h; obtain ⟨rfl, rfl⟩ := h; rfl⟩
  | c :: cs => by
    obtain ⟨ih1, ih2⟩ := nmGo_split cs
    obtain ⟨k1, k2, k3, k4, k5⟩ := kind_spec c
    by_cases h45 : c = 45
    · subst h45
      have hs : splitL (45 :: cs) = [] :: splitL cs := by rw [splitL, if_pos rfl]
      refine ⟨fun z => ?_, fun z p ps hz h => ?_⟩
      · rw [hs]; simp [nmGo, partOk]; intro h; exfalso; revert h; decide
      · rw [hs] at h
        obtain ⟨rfl, rfl⟩ := List.cons.inj h
        rw [nmGo, if_pos (.inr (.inr (by decide))), restOk, Bool.true_and]
        exact ih1 z
    · obtain ⟨p, ps, hp, hs⟩ := splitL_cons c cs h45
      have hk4 : kindOf c.toNat ≠ 4 := fun e => h45 (k4.1 e)
      refine ⟨fun z => ?_, fun z p' ps' hz h => ?_⟩
      · rw [hs, List.all_cons, partOk, restOk, nmGo]
        by_cases hk : kindOf c.toNat = 1 ∨ kindOf c.toNat = 2
        · rw [if_pos hk, ih2 _ p ps hk hp]
          rcases hk with hk | hk
          · have := k1.1 hk; simp [hk, this]
          · have hu := k2.1 hk
            have hl : lowB c = false := by cases hl : lowB c with
              | false => rfl
              | true => have := k1.2 hl; omega
            simp [hk, hu, hl]
        · rw [if_neg hk]
          have h1 : lowB c = false := by cases h : lowB c with
            | false => rfl
            | true => exact absurd (.inl (k1.2 h)) hk
          have h2 : uppB c = false := by cases h : uppB c with
            | false => rfl
            | true => exact absurd (.inr (k2.2 h)) hk
          simp [h1, h2]
      · rw [hs] at h
        obtain ⟨rfl, rfl⟩ := List.cons.inj h
        rw [nmGo, restOk]
        have hd : decide (c = 45) = false := by simp [h45]
        by_cases hc : kindOf c.toNat = z ∨ kindOf c.toNat = 3 ∨ kindOf c.toNat = 4
        · rw [if_pos hc, hd, ih2 z p ps hz hp]
          have : (digB c || (lowB c == decide (z = 1) && (lowB c || uppB c))) = true := by
            rcases hc with hc | hc | hc
            · rcases hz with rfl | rfl
              · simp [k1.1 hc]
              · have hu := k2.1 hc
                have hl : lowB c = false := by cases hl : lowB c with
                  | false => rfl
                  | true => have := k1.2 hl; omega
                simp [hu, hl]
            · simp [k3.1 hc]
            · exact absurd hc hk4
          rw [this, Bool.true_and]
        · rw [if_neg hc]
          have h3 : digB c = false := by cases h : digB c with
            | false => rfl
            | true => exact absurd (.inr (.inl (k3.2 h))) hc
          have : (lowB c == decide (z = 1) && (lowB c || uppB c)) = false := by
            rcases hz with rfl | rfl
            · have h1 : lowB c = false := by cases h : lowB c with
                | false => rfl
                | true => exact absurd (.inl (k1.2 h)) hc
              simp [h1]
            · have h2 : uppB c = false := by cases h : uppB c with
                | false => rfl
                | true => exact absurd (.inl (k2.2 h)) hc
              cases hl : lowB c <;> simp [h2]
          rw [h3, this]; rfl
theorem nameOk_split (s : ByteArray) : nameOk s = (decide (1 ≤ s.size) && decide (s.size ≤ 100) && (strs s.data.toList).all fun p => partOk (bs p)) := by
  rw [nameOk, (nmGo_split (bs s)).1 0, strs, List.all_map]
  rfl
/-- A contract, as the kit says it. -/
theorem pure_bool {P : Program} {f : FuncId} {s : ByteArray} {b : Bool} (h : E.Pure P f [tStr s] (.one (.t (tBool b)))) (V : World) : Calls P f #[.string s] V fun e w' => e = .returned (.bool b) ∧ Below V.heap.size V w' := by
  refine (h (fun _ => none) #[.string s] V (fun a u e => by cases e) rfl (fun i x v h1 h2 => ?_)).mono ?_
  · cases i with
    | zero => simp at h1 h2; subst h1; subst h2; exact .v rfl
    | succ i => simp at h1
  · rintro e w' ⟨rv, F', rfl, _, _, _, hb, hr⟩
    cases hr with | one hr => cases hr with | t ht => cases ht with | v _ => exact ⟨rfl, hb⟩
theorem bool_pure {P : Program} {f : FuncId} {s : ByteArray} {b : Bool} (h : ∀ V : World, Calls P f #[.string s] V fun e w' => e = .returned (.bool b) ∧ Below V.heap.size V w') : E.Pure P f [tStr s] (.one (.t (tBool b))) := by
  intro F vs w hF hn hv
  have hs : vs.size = 1 := by simpa using hn.symm
  have h0 := hv 0 _ vs[0] rfl (Array.getElem?_eq_getElem (by omega))
  have hvs : vs = #[.string s] := by
    apply Array.ext
    · simpa using hs
    · intro i h1 h2
      have hi : i = 0 := by omega
      subst hi
      generalize vs[0] = q at h0 ⊢
      cases h0; rfl
  subst hvs
  refine (h w).mono ?_
  rintro e w' ⟨rfl, hb⟩
  refine ⟨_, F, rfl, FMem.le_refl F, fun a u e => ?_, fun a hx => absurd rfl hx, hb, .one (b := none) (.t (.v rfl))⟩
  obtain ⟨h1, h2⟩ := hF a u e
  exact ⟨by rw [hb.cell (cell_lt h1)]; exact h1, h2⟩
theorem Below.keeps {V W : World} (h : Below V.heap.size V W) : KeepsOthers V W := ⟨h.size, fun k o hk _ => by rw [h.block k (Array.getElem?_eq_some_iff.1 hk).1]; exact hk⟩
end Go.Proofs.YtaplmmhkpljmkaaDoor
