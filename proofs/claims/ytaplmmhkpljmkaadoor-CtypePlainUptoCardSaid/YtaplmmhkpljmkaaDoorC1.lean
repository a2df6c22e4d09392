/- Layer 10: the reference's Name. -/
import Derived.Test.YtaplmmhkpljmkaaDoorC0
namespace Go.Proofs.YtaplmmhkpljmkaaDoor
open Go E
set_option maxRecDepth 100000
set_option linter.unusedVariables false
set_option linter.unusedSimpArgs false
attribute [local irreducible] Tri TriL TriO PO VO E.Pure DOb
def kindOf (c : Int) : Int := if c ≥ 97 ∧ c ≤ 122 then 1 else if c ≥ 65 ∧ c ≤ 90 then 2 else if c ≥ 48 ∧ c ≤ 57 then 3 else if c = 45 then 4 else if c = 46 then 5 else 0
theorem kind_p (c : Int) : E.Pure Tryd.prog 61 [.v (.int .u8 c)] (.one (.t (tInt (kindOf c)))) := by
  refine Pure.of1 Tryd.func61 rfl rfl (Nat.le_of_ble_eq_true rfl) rfl ?_
  repeat' (first | refine Tri.seq ?_ | refine Tri.reg ?_ | refine TriL.nil ?_ | (apply U.moveT; rfl; trivial; rfl) | (apply U.assignT; rfl; trivial; rfl) | (apply U.bin; rfl; trivial; rfl; trivial; rfl; rfl) | (apply U.pickb; rfl; trivial; rfl; (first | trivial | exact id | exact And.right | exact gvA | exact gvB | exact And.left | exact gvN | exact gvP2 | exact gvN2 | exact gvLA); rfl; (first | trivial | exact id | exact And.right | exact gvA | exact gvB | exact And.left | exact gvN | exact gvP2 | exact gvN2 | exact gvLA); rfl) | (apply G.moveT; rfl; (first | trivial | exact id | exact And.right | exact gvA | exact gvB | exact And.left | exact gvN | exact gvP2 | exact gvN2 | exact gvLA); rfl; rfl; rfl) | (apply G.bin; rfl; (first | trivial | exact id | exact And.right | exact gvA | exact gvB | exact And.left | exact gvN | exact gvP2 | exact gvN2 | exact gvLA); rfl; (first | trivial | exact id | exact And.right | exact gvA | exact gvB | exact And.left | exact gvN | exact gvP2 | exact gvN2 | exact gvLA); rfl; rfl; rfl; rfl) | refine Tri.skip ?_ | refine Tri.ret ?_ | (refine Tri.cond rfl (fun h => ?_) (fun h => ?_) <;> (try simp at h) <;> (try contradiction)) | fail)
  all_goals (refine Comes1.ret rfl ?_; simp only [kindOf]; (repeat' split) <;> first | rfl | (exfalso; omega))
/-- May the letters go on, behind a part's begin (or at one)? -/
def nmGo : Bool → Int → List UInt8 → Bool
  | st, _, [] => !st
  | true, _, c :: cs => if kindOf c.toNat = 1 ∨ kindOf c.toNat = 2 then nmGo false (kindOf c.toNat) cs else false
  | false, z, c :: cs => if kindOf c.toNat = z ∨ kindOf c.toNat = 3 ∨ kindOf c.toNat = 4 then nmGo (decide (c = 45)) z cs else false
def nameOk (s : ByteArray) : Bool := decide (1 ≤ s.size) && decide (s.size ≤ 100) && nmGo true 0 (bs s)
def stAt (l : List UInt8) (i : Nat) : Bool := decide (i = 0) || decide (l.getD (i - 1) 0 = 45)
set_option maxHeartbeats 4000000
theorem name_p (s : ByteArray) : E.Pure Tryd.prog 56 [tStr s] (.one (.t (tBool (nameOk s)))) := by
  refine Pure.of1 Tryd.func56 rfl rfl (Nat.le_of_ble_eq_true rfl) rfl ?_
  repeat' (first | refine Tri.seq ?_ | refine Tri.reg ?_ | refine TriL.nil ?_ | (apply U.moveT; rfl; trivial; rfl) | (apply U.assignT; rfl; trivial; rfl) | (apply U.bin; rfl; trivial; rfl; trivial; rfl; rfl) | (apply U.lenS; rfl; trivial; rfl) | (apply U.pickb; rfl; trivial; rfl; (first | trivial | exact id | exact And.right | exact gvA | exact gvB | exact And.left | exact gvN | exact gvP2 | exact gvN2 | exact gvLA); rfl; (first | trivial | exact id | exact And.right | exact gvA | exact gvB | exact And.left | exact gvN | exact gvP2 | exact gvN2 | exact gvLA); rfl) | (apply G.moveT; rfl; (first | trivial | exact id | exact And.right | exact gvA | exact gvB | exact And.left | exact gvN | exact gvP2 | exact gvN2 | exact gvLA); rfl; rfl; rfl) | (apply G.bin; rfl; (first | trivial | exact id | exact And.right | exact gvA | exact gvB | exact And.left | exact gvN | exact gvP2 | exact gvN2 | exact gvLA); rfl; (first | trivial | exact id | exact And.right | exact gvA | exact gvB | exact And.left | exact gvN | exact gvP2 | exact gvN2 | exact gvLA); rfl; rfl; rfl; rfl) | (apply G.lenS; rfl; (first | trivial | exact id | exact And.right | exact gvA | exact gvB | exact And.left | exact gvN | exact gvP2 | exact gvN2 | exact gvLA); rfl; rfl; rfl) | refine Tri.skip ?_ | refine Tri.block ?_ | refine Tri.ret ?_ | (refine Tri.cond rfl (fun h => ?_) (fun h => ?_) <;> (try simp at h) <;> (try contradiction)) | fail)
  · refine Comes1.ret rfl ?_
    simp only [tBool, nameOk]; congr 3; simp; omega
  · refine Tri.loopS (α := Nat × Int) (fun a => ⟨[(4, .t (tInt a.1)), (3, .t (tInt a.2)), (2, .t (tBool false)), (0, .t (tStr s))], Tryd.f56.ntmps, [], 0, 0⟩)
      (fun a => a.1 ≤ s.size ∧ nmGo true 0 (bs s) = nmGo (stAt (bs s) a.1) a.2 ((bs s).drop a.1)) (fun a => s.size - a.1) (0, 0) ?_ ?_ ?_
    · exact ⟨Nat.zero_le _, by simp [stAt]⟩
    · exact Sub.of rfl rfl ⟨rfl, rfl, rfl, rfl, trivial⟩ trivial
    · rintro ⟨i, z⟩ ⟨hi, hn⟩
      dsimp only at hi hn ⊢
      have hl := bs_length s
      repeat' (first | refine Tri.seq ?_ | refine Tri.reg ?_ | refine TriL.nil ?_ | (apply U.moveT; rfl; trivial; rfl) | (apply U.assignT; rfl; trivial; rfl) | (apply U.sub; rfl; trivial; rfl; trivial; exact fun _ => wrap_i64 (by omega) (by omega); rfl) | (apply U.bin; rfl; trivial; rfl; trivial; rfl; rfl) | (apply U.lenS; rfl; trivial; rfl) | (apply U.idxS; rfl; trivial; rfl; trivial; exact fun _ => (by omega); exact fun _ => (by omega); rfl) | refine Tri.skip ?_ | refine Tri.block ?_ | refine Tri.exit ?_ | refine Tri.ret ?_ | (refine Tri.cond rfl (fun h => ?_) (fun h => ?_) <;> (try simp at h) <;> (try contradiction)) | fail)
      · refine U.call1 rfl rfl (kind_p _) rfl ?_
        have hlt : i < (bs s).length := by omega
        rw [byteAt_get hlt]
        have hdrop := List.drop_eq_getElem_cons hlt
        have hst : stAt (bs s) (i + 1) = decide ((bs s)[i] = 45) := by
          rw [stAt, Nat.add_sub_cancel, List.getD_eq_getElem?_getD, List.getElem?_eq_getElem hlt]; simp
        repeat' (first | refine Tri.seq ?_ | refine Tri.reg ?_ | refine TriL.nil ?_ | (apply U.moveT; rfl; trivial; rfl) | (apply U.assignT; rfl; trivial; rfl) | (apply U.add; rfl; trivial; rfl; trivial; exact fun _ => wrap_i64 (by omega) (by omega); rfl) | (apply U.bin; rfl; trivial; rfl; trivial; rfl; rfl) | (apply U.pickb; rfl; trivial; rfl; (first | trivial | exact id | exact And.right | exact gvA | exact gvB | exact And.left | exact gvN | exact gvP2 | exact gvN2 | exact gvLA); rfl; (first | trivial | exact id | exact And.right | exact gvA | exact gvB | exact And.left | exact gvN | exact gvP2 | exact gvN2 | exact gvLA); rfl) | (apply G.moveT; rfl; (first | trivial | exact id | exact And.right | exact gvA | exact gvB | exact And.left | exact gvN | exact gvP2 | exact gvN2 | exact gvLA); rfl; rfl; rfl) | (apply G.sub; rfl; (first | trivial | exact id | exact And.right | exact gvA | exact gvB | exact And.left | exact gvN | exact gvP2 | exact gvN2 | exact gvLA); rfl; (first | trivial | exact id | exact And.right | exact gvA | exact gvB | exact And.left | exact gvN | exact gvP2 | exact gvN2 | exact gvLA); exact fun _ => wrap_i64 (by omega) (by omega); rfl; rfl; rfl) | (apply G.bin; rfl; (first | trivial | exact id | exact And.right | exact gvA | exact gvB | exact And.left | exact gvN | exact gvP2 | exact gvN2 | exact gvLA); rfl; (first | trivial | exact id | exact And.right | exact gvA | exact gvB | exact And.left | exact gvN | exact gvP2 | exact gvN2 | exact gvLA); rfl; rfl; rfl; rfl) | (apply G.idxS; rfl; (first | trivial | exact id | exact And.right | exact gvA | exact gvB | exact And.left | exact gvN | exact gvP2 | exact gvN2 | exact gvLA); rfl; (first | trivial | exact id | exact And.right | exact gvA | exact gvB | exact And.left | exact gvN | exact gvP2 | exact gvN2 | exact gvLA); exact fun h_ => (by simp at h_; omega); exact fun h_ => (by simp at h_; omega); rfl; rfl; rfl) | refine Tri.skip ?_ | refine Tri.ret ?_ | (refine Tri.cond rfl (fun h => ?_) (fun h => ?_) <;> (try simp at h) <;> (try contradiction)) | fail)
        all_goals rename_i h0
        all_goals
          have e1 : byteAt s ((i : Int) - 1) = (bs s).getD (i - 1) 0 := by
            rw [byteAt]; congr 1; omega
          rw [e1, show (45 : Int) = ((45 : Nat) : Int) from rfl, u8_eq _ 45 (by decide)] at h0
        · refine Comes1.ret rfl ?_
          have hst0 : stAt (bs s) i = true := by simp only [stAt, Bool.or_eq_true, decide_eq_true_eq]; exact h0
          rw [hst0, hdrop, nmGo, if_neg (by simpa using h)] at hn
          rw [nameOk, hn, Bool.and_false]; rfl
        · have hst0 : stAt (bs s) i = true := by simp only [stAt, Bool.or_eq_true, decide_eq_true_eq]; exact h0
          have hk : kindOf (bs s)[i].toNat = 1 ∨ kindOf (bs s)[i].toNat = 2 := by
            by_cases e : kindOf (bs s)[i].toNat = 1
            · exact .inl e
            · exact .inr (h e)
          rw [hst0, hdrop, nmGo, if_pos hk] at hn
          refine ⟨(i + 1, kindOf (bs s)[i].toNat), ⟨by omega, ?_⟩, by dsimp only; omega, Sub.of rfl rfl ⟨rfl, rfl, rfl, rfl, trivial⟩ trivial⟩
          dsimp only
          rw [hn, hst]; congr 1
          refine (decide_eq_false fun e => ?_).symm
          rw [e] at hk; revert hk; decide
        · refine Comes1.ret rfl ?_
          have hst0 : stAt (bs s) i = false := by simp only [stAt, Bool.or_eq_false_iff, decide_eq_false_iff_not]; exact h0
          rw [hst0, hdrop, nmGo, if_neg (by simp only [not_or]; exact ⟨h.1.1, h.1.2, h.2⟩)] at hn
          rw [nameOk, hn, Bool.and_false]; rfl
        · have hst0 : stAt (bs s) i = false := by simp only [stAt, Bool.or_eq_false_iff, decide_eq_false_iff_not]; exact h0
          have hk : kindOf (bs s)[i].toNat = z ∨ kindOf (bs s)[i].toNat = 3 ∨ kindOf (bs s)[i].toNat = 4 := by
            by_cases e : kindOf (bs s)[i].toNat = z
            · exact .inl e
            · by_cases e2 : kindOf (bs s)[i].toNat = 3
              · exact .inr (.inl e2)
              · exact .inr (.inr (h e e2))
          rw [hst0, hdrop, nmGo, if_pos hk] at hn
          refine ⟨(i + 1, z), ⟨by omega, ?_⟩, by dsimp only; omega, Sub.of rfl rfl ⟨rfl, rfl, rfl, rfl, trivial⟩ trivial⟩
          dsimp only
          rw [hn, hst]
      · refine Comes1.ret rfl ?_
        have hi' : i = s.size := by omega
        have h1 : s.size ≠ 0 := by omega
        have e1 : byteAt s ((s.size : Int) - 1) = (bs s).getD (s.size - 1) 0 := by
          rw [byteAt]; congr 1; omega
        subst hi'
        rw [List.drop_eq_nil_of_le (by omega)] at hn
        rw [nameOk, hn, nmGo, stAt, e1]
        generalize (bs s).getD (s.size - 1) 0 = c
        have h2 : (1 ≤ s.size) := by omega
        have h3 : (s.size ≤ 100) := by omega
        have := u8_eq c 45 (by decide)
        simp only [tBool, h1, h2, h3, decide_true, decide_false, Bool.true_and, Bool.false_or]
        congr 3
        simp only [ne_eq, decide_not]
        congr 1
        simpa using this
end Go.Proofs.YtaplmmhkpljmkaaDoor
