/- Layer 10, the code: a name's part. -/
import Derived.Test.YtmhbibfkhbaclaaGreatDoorK17
namespace Go.Proofs.YtmhbibfkhbaclaaGreatDoor
open Go E
set_option maxRecDepth 100000
set_option maxHeartbeats 4000000
set_option linter.unusedVariables false
set_option linter.unusedSimpArgs false
attribute [local irreducible] Tri TriL TriO PO VO E.Pure DOb
def lowB (c : UInt8) : Bool := decide (97 ≤ (c.toNat : Int)) && decide ((c.toNat : Int) ≤ 122)
def uppB (c : UInt8) : Bool := decide (65 ≤ (c.toNat : Int)) && decide ((c.toNat : Int) ≤ 90)
def digB (c : UInt8) : Bool := decide (48 ≤ (c.toNat : Int)) && decide ((c.toNat : Int) ≤ 57)
theorem lower_p (c : UInt8) : E.Pure Tryz.prog 108 [tByte c] (.one (.t (tBool (lowB c)))) := by
  refine Pure.of1 Tryz.func108 rfl rfl (Nat.le_of_ble_eq_true rfl) rfl ?_
  repeat' (first | refine Tri.seq ?_ | refine Tri.reg ?_ | refine TriL.nil ?_ | (apply U.moveT; rfl; trivial; rfl) | (apply U.assignT; rfl; trivial; rfl) | (apply U.bin; rfl; trivial; rfl; trivial; rfl; rfl) | (apply U.pickb; rfl; trivial; rfl; (first | trivial | exact id | exact And.right | exact gvA | exact gvB | exact And.left | exact gvN | exact gvP2 | exact gvN2 | exact gvLA); rfl; (first | trivial | exact id | exact And.right | exact gvA | exact gvB | exact And.left | exact gvN | exact gvP2 | exact gvN2 | exact gvLA); rfl) | (apply G.moveT; rfl; (first | trivial | exact id | exact And.right | exact gvA | exact gvB | exact And.left | exact gvN | exact gvP2 | exact gvN2 | exact gvLA); rfl; rfl; rfl) | (apply G.bin; rfl; (first | trivial | exact id | exact And.right | exact gvA | exact gvB | exact And.left | exact gvN | exact gvP2 | exact gvN2 | exact gvLA); rfl; (first | trivial | exact id | exact And.right | exact gvA | exact gvB | exact And.left | exact gvN | exact gvP2 | exact gvN2 | exact gvLA); rfl; rfl; rfl; rfl) | refine Tri.ret ?_ | fail)
  refine Comes1.ret rfl (retB ?_)
  rw [Bool.eq_iff_iff]; simp [lowB]
theorem upper_p (c : UInt8) : E.Pure Tryz.prog 109 [tByte c] (.one (.t (tBool (uppB c)))) := by
  refine Pure.of1 Tryz.func109 rfl rfl (Nat.le_of_ble_eq_true rfl) rfl ?_
  repeat' (first | refine Tri.seq ?_ | refine Tri.reg ?_ | refine TriL.nil ?_ | (apply U.moveT; rfl; trivial; rfl) | (apply U.assignT; rfl; trivial; rfl) | (apply U.bin; rfl; trivial; rfl; trivial; rfl; rfl) | (apply U.pickb; rfl; trivial; rfl; (first | trivial | exact id | exact And.right | exact gvA | exact gvB | exact And.left | exact gvN | exact gvP2 | exact gvN2 | exact gvLA); rfl; (first | trivial | exact id | exact And.right | exact gvA | exact gvB | exact And.left | exact gvN | exact gvP2 | exact gvN2 | exact gvLA); rfl) | (apply G.moveT; rfl; (first | trivial | exact id | exact And.right | exact gvA | exact gvB | exact And.left | exact gvN | exact gvP2 | exact gvN2 | exact gvLA); rfl; rfl; rfl) | (apply G.bin; rfl; (first | trivial | exact id | exact And.right | exact gvA | exact gvB | exact And.left | exact gvN | exact gvP2 | exact gvN2 | exact gvLA); rfl; (first | trivial | exact id | exact And.right | exact gvA | exact gvB | exact And.left | exact gvN | exact gvP2 | exact gvN2 | exact gvLA); rfl; rfl; rfl; rfl) | refine Tri.ret ?_ | fail)
  refine Comes1.ret rfl (retB ?_)
  rw [Bool.eq_iff_iff]; simp [uppB]
theorem digit_p (c : UInt8) : E.Pure Tryz.prog 110 [tByte c] (.one (.t (tBool (digB c)))) := by
  refine Pure.of1 Tryz.func110 rfl rfl (Nat.le_of_ble_eq_true rfl) rfl ?_
  repeat' (first | refine Tri.seq ?_ | refine Tri.reg ?_ | refine TriL.nil ?_ | (apply U.moveT; rfl; trivial; rfl) | (apply U.assignT; rfl; trivial; rfl) | (apply U.bin; rfl; trivial; rfl; trivial; rfl; rfl) | (apply U.pickb; rfl; trivial; rfl; (first | trivial | exact id | exact And.right | exact gvA | exact gvB | exact And.left | exact gvN | exact gvP2 | exact gvN2 | exact gvLA); rfl; (first | trivial | exact id | exact And.right | exact gvA | exact gvB | exact And.left | exact gvN | exact gvP2 | exact gvN2 | exact gvLA); rfl) | (apply G.moveT; rfl; (first | trivial | exact id | exact And.right | exact gvA | exact gvB | exact And.left | exact gvN | exact gvP2 | exact gvN2 | exact gvLA); rfl; rfl; rfl) | (apply G.bin; rfl; (first | trivial | exact id | exact And.right | exact gvA | exact gvB | exact And.left | exact gvN | exact gvP2 | exact gvN2 | exact gvLA); rfl; (first | trivial | exact id | exact And.right | exact gvA | exact gvB | exact And.left | exact gvN | exact gvP2 | exact gvN2 | exact gvLA); rfl; rfl; rfl; rfl) | refine Tri.ret ?_ | fail)
  refine Comes1.ret rfl (retB ?_)
  rw [Bool.eq_iff_iff]; simp [digB]
/-- A part's letters, its first one's kind being z. -/
def restOk (z : Bool) : List UInt8 → Bool
  | [] => true
  | d :: l => (digB d || (lowB d == z && (lowB d || uppB d))) && restOk z l
def partOk : List UInt8 → Bool
  | [] => false
  | c :: l => (lowB c || uppB c) && restOk (lowB c) (c :: l)
theorem restOk_step {z : Bool} {l : List UInt8} {i : Nat} (h : i < l.length) : restOk z (l.drop i) = ((digB l[i] || (lowB l[i] == z && (lowB l[i] || uppB l[i]))) && restOk z (l.drop (i + 1))) := by
  rw [List.drop_eq_getElem_cons h, restOk]
theorem part_p (s : ByteArray) (hb : s.size ≤ 1000) : E.Pure Tryz.prog 94 [tStr s] (.one (.t (tBool (partOk (bs s))))) := by
  have hl := bs_length s
  by_cases he : s = ⟨#[]⟩
  · subst he
    refine Pure.of1 Tryz.func94 rfl rfl (Nat.le_of_ble_eq_true rfl) rfl ?_
    have q1 := lower_p (byteAt ⟨#[]⟩ 0)
    have q2 := upper_p (byteAt ⟨#[]⟩ 0)
    repeat' (first | refine Tri.seq ?_ | refine Tri.reg ?_ | refine TriL.nil ?_ | (apply U.moveT; rfl; trivial; rfl) | (apply U.assignT; rfl; trivial; rfl) | (apply U.bin; rfl; trivial; rfl; trivial; rfl; rfl) | (apply G.moveT; rfl; (first | trivial | exact id | exact And.right | exact gvA | exact gvB | exact And.left | exact gvN | exact gvP2 | exact gvN2 | exact gvLA); rfl; rfl; rfl) | fail)
    refine G.idxS rfl (by (first | trivial | exact id | exact And.right | exact gvA | exact gvB | exact And.left | exact gvN | exact gvP2 | exact gvN2 | exact gvLA)) rfl (by (first | trivial | exact id | exact And.right | exact gvA | exact gvB | exact And.left | exact gvN | exact gvP2 | exact gvN2 | exact gvLA)) (fun h_ => by simp at h_) (fun h_ => by simp at h_) rfl rfl rfl ?_
    repeat' (first | (apply G.moveT; rfl; (first | trivial | exact id | exact And.right | exact gvA | exact gvB | exact And.left | exact gvN | exact gvP2 | exact gvN2 | exact gvLA); rfl; rfl; rfl) | (apply G.not; rfl; (first | trivial | exact id | exact And.right | exact gvA | exact gvB | exact And.left | exact gvN | exact gvP2 | exact gvN2 | exact gvLA); rfl; rfl; rfl) | refine G.call1 rfl rfl (by (first | trivial | exact id | exact And.right | exact gvA | exact gvB | exact And.left | exact gvN | exact gvP2 | exact gvN2 | exact gvLA)) (by first | assumption | exact fun _ => by assumption) rfl rfl rfl ?_ | fail)
    refine G.idxS rfl (by (first | trivial | exact id | exact And.right | exact gvA | exact gvB | exact And.left | exact gvN | exact gvP2 | exact gvN2 | exact gvLA)) rfl (by (first | trivial | exact id | exact And.right | exact gvA | exact gvB | exact And.left | exact gvN | exact gvP2 | exact gvN2 | exact gvLA)) (fun h_ => by simp at h_) (fun h_ => by simp at h_) rfl rfl rfl ?_
    repeat' (first | refine Tri.seq ?_ | refine Tri.reg ?_ | refine TriL.nil ?_ | (apply U.assignT; rfl; trivial; rfl) | (apply U.pickb; rfl; trivial; rfl; (first | trivial | exact id | exact And.right | exact gvA | exact gvB | exact And.left | exact gvN | exact gvP2 | exact gvN2 | exact gvLA); rfl; (first | trivial | exact id | exact And.right | exact gvA | exact gvB | exact And.left | exact gvN | exact gvP2 | exact gvN2 | exact gvLA); rfl) | (apply G.not; rfl; (first | trivial | exact id | exact And.right | exact gvA | exact gvB | exact And.left | exact gvN | exact gvP2 | exact gvN2 | exact gvLA); rfl; rfl; rfl) | (apply G.pickb; rfl; (first | trivial | exact id | exact And.right | exact gvA | exact gvB | exact And.left | exact gvN | exact gvP2 | exact gvN2 | exact gvLA); rfl; (first | trivial | exact id | exact And.right | exact gvA | exact gvB | exact And.left | exact gvN | exact gvP2 | exact gvN2 | exact gvLA); rfl; (first | trivial | exact id | exact And.right | exact gvA | exact gvB | exact And.left | exact gvN | exact gvP2 | exact gvN2 | exact gvLA); rfl; rfl; rfl) | refine G.call1 rfl rfl (by (first | trivial | exact id | exact And.right | exact gvA | exact gvB | exact And.left | exact gvN | exact gvP2 | exact gvN2 | exact gvLA)) (by first | assumption | exact fun _ => by assumption) rfl rfl rfl ?_ | refine Tri.ret ?_ | (refine Tri.cond rfl (fun h => ?_) (fun h => ?_) <;> (try simp at h) <;> (try contradiction)) | fail)
    exact Comes1.ret rfl rfl
  · have hpos : 0 < (bs s).length := by
      rcases Nat.eq_zero_or_pos (bs s).length with h | h
      · exact absurd (bs_inj (a := s) (b := ⟨#[]⟩) (by rw [List.length_eq_zero_iff.1 h]; rfl)) he
      · exact h
    have h0 : byteAt s 0 = (bs s)[0] := byteAt_get (i := 0) hpos
    have q1 := lower_p (bs s)[0]
    have q2 := upper_p (bs s)[0]
    rw [← h0] at q1 q2
    refine Pure.of1 Tryz.func94 rfl rfl (Nat.le_of_ble_eq_true rfl) rfl ?_
    repeat' (first | refine Tri.seq ?_ | refine Tri.reg ?_ | refine TriL.nil ?_ | (apply U.moveT; rfl; trivial; rfl) | (apply U.assignT; rfl; trivial; rfl) | (apply U.bin; rfl; trivial; rfl; trivial; rfl; rfl) | (apply U.len; rfl; trivial; rfl) | (apply U.pickb; rfl; trivial; rfl; (first | trivial | exact id | exact And.right | exact gvA | exact gvB | exact And.left | exact gvN | exact gvP2 | exact gvN2 | exact gvLA); rfl; (first | trivial | exact id | exact And.right | exact gvA | exact gvB | exact And.left | exact gvN | exact gvP2 | exact gvN2 | exact gvLA); rfl) | (apply U.idxS; rfl; trivial; rfl; trivial; exact fun _ => (by omega); exact fun _ => (by omega); rfl) | (apply G.moveT; rfl; (first | trivial | exact id | exact And.right | exact gvA | exact gvB | exact And.left | exact gvN | exact gvP2 | exact gvN2 | exact gvLA); rfl; rfl; rfl) | (apply G.not; rfl; (first | trivial | exact id | exact And.right | exact gvA | exact gvB | exact And.left | exact gvN | exact gvP2 | exact gvN2 | exact gvLA); rfl; rfl; rfl) | (apply G.idxS; rfl; (first | trivial | exact id | exact And.right | exact gvA | exact gvB | exact And.left | exact gvN | exact gvP2 | exact gvN2 | exact gvLA); rfl; (first | trivial | exact id | exact And.right | exact gvA | exact gvB | exact And.left | exact gvN | exact gvP2 | exact gvN2 | exact gvLA); exact fun h_ => (by simp at h_; omega); exact fun h_ => (by simp at h_; omega); rfl; rfl; rfl) | (apply G.pickb; rfl; (first | trivial | exact id | exact And.right | exact gvA | exact gvB | exact And.left | exact gvN | exact gvP2 | exact gvN2 | exact gvLA); rfl; (first | trivial | exact id | exact And.right | exact gvA | exact gvB | exact And.left | exact gvN | exact gvP2 | exact gvN2 | exact gvLA); rfl; (first | trivial | exact id | exact And.right | exact gvA | exact gvB | exact And.left | exact gvN | exact gvP2 | exact gvN2 | exact gvLA); rfl; rfl; rfl) | refine U.call1 rfl rfl (by assumption) rfl ?_ | refine G.call1 rfl rfl (by (first | trivial | exact id | exact And.right | exact gvA | exact gvB | exact And.left | exact gvN | exact gvP2 | exact gvN2 | exact gvLA)) (by first | assumption | exact fun _ => by assumption) rfl rfl rfl ?_ | refine Tri.skip ?_ | refine Tri.block ?_ | refine Tri.ret ?_ | (apply U.s2b; rfl; trivial; rfl) | (refine Tri.cond rfl (fun h => ?_) (fun h => ?_) <;> (try simp at h) <;> (try contradiction)) | fail)
    · refine Comes1.ret rfl (retB ?_)
      obtain ⟨c, l, hcl⟩ : ∃ c l, bs s = c :: l := by
        cases hb : bs s with
        | nil => rw [hb] at hpos; cases hpos
        | cons c l => exact ⟨c, l, rfl⟩
      have hc : byteAt s 0 = c := by rw [h0]; simp [hcl]
      have h := h.resolve_left he
      rw [hc] at h
      rw [hcl, partOk, h.1, h.2]; rfl
    · have hlt2 : ((bs s).map tByte).length = (bs s).length := by simp
      have hfirst : partOk (bs s) = restOk (lowB (byteAt s 0)) (bs s) := by
        obtain ⟨c, l, hcl⟩ : ∃ c l, bs s = c :: l := by
          cases hb : bs s with
          | nil => rw [hb] at hpos; cases hpos
          | cons c l => exact ⟨c, l, rfl⟩
        have hc : byteAt s 0 = c := by rw [h0]; simp [hcl]
        rw [hc] at h ⊢
        rw [hcl, partOk]
        cases h1 : lowB c with
        | true => simp
        | false => rw [h.2 h1]; simp
      refine Tri.loopS (α := Nat) (fun i => ⟨[(26, .t (tInt i)), (25, .t (tInt (bs s).length)), (24, .t (.sl false ((bs s).map tByte))), (3, .t (tBool (lowB (byteAt s 0))))], Tryz.f94.ntmps, [], 0, 0⟩)
        (fun i => i ≤ (bs s).length ∧ partOk (bs s) = restOk (lowB (byteAt s 0)) ((bs s).drop i)) (fun i => (bs s).length - i) 0 ?_ ?_ ?_
      · exact ⟨Nat.zero_le _, hfirst⟩
      · refine Sub.of rfl rfl ⟨rfl, ?_, rfl, rfl, trivial⟩ trivial
        rw [← hlt2]; rfl
      · clear h hfirst q1 q2
        rintro i ⟨hi, hr⟩
        repeat' (first | refine Tri.seq ?_ | refine Tri.reg ?_ | refine TriL.nil ?_ | (apply U.assignT; rfl; trivial; rfl) | (apply U.bin; rfl; trivial; rfl; trivial; rfl; rfl) | refine Tri.skip ?_ | refine Tri.block ?_ | refine Tri.exit ?_ | refine Tri.ret ?_ | (refine Tri.cond rfl (fun h => ?_) (fun h => ?_) <;> (try simp at h) <;> (try contradiction)) | fail)
        · have hlt : i < (bs s).length := by omega
          have hget : ((bs s).map tByte)[((i : Nat) : Int).toNat]? = some (tByte (bs s)[i]) := by simp [hlt]
          have hstep := restOk_step (z := lowB (byteAt s 0)) hlt
          have r1 := digit_p (bs s)[i]
          have r2 := lower_p (bs s)[i]
          have r3 := upper_p (bs s)[i]
          repeat' (first | refine Tri.seq ?_ | refine Tri.reg ?_ | refine TriL.nil ?_ | (apply U.moveT; rfl; trivial; rfl) | (apply U.assignT; rfl; trivial; rfl) | (apply U.add; rfl; trivial; rfl; trivial; exact fun _ => wrap_i64 (by omega) (by omega); rfl) | (apply U.loadE; rfl; rfl; trivial; rfl; rfl) | (apply U.not; rfl; trivial; rfl) | (apply U.pickb; rfl; trivial; rfl; (first | trivial | exact id | exact And.right | exact gvA | exact gvB | exact And.left | exact gvN | exact gvP2 | exact gvN2 | exact gvLA); rfl; (first | trivial | exact id | exact And.right | exact gvA | exact gvB | exact And.left | exact gvN | exact gvP2 | exact gvN2 | exact gvLA); rfl) | (apply U.idx; rfl; trivial; rfl; trivial; exact fun _ => (by omega); exact fun _ => (by assumption); exact fun _ => rfl; rfl) | (apply G.moveT; rfl; (first | trivial | exact id | exact And.right | exact gvA | exact gvB | exact And.left | exact gvN | exact gvP2 | exact gvN2 | exact gvLA); rfl; rfl; rfl) | (apply G.neb; rfl; (first | trivial | exact id | exact And.right | exact gvA | exact gvB | exact And.left | exact gvN | exact gvP2 | exact gvN2 | exact gvLA); rfl; (first | trivial | exact id | exact And.right | exact gvA | exact gvB | exact And.left | exact gvN | exact gvP2 | exact gvN2 | exact gvLA); rfl; rfl; rfl) | (apply G.not; rfl; (first | trivial | exact id | exact And.right | exact gvA | exact gvB | exact And.left | exact gvN | exact gvP2 | exact gvN2 | exact gvLA); rfl; rfl; rfl) | (apply G.pickb; rfl; (first | trivial | exact id | exact And.right | exact gvA | exact gvB | exact And.left | exact gvN | exact gvP2 | exact gvN2 | exact gvLA); rfl; (first | trivial | exact id | exact And.right | exact gvA | exact gvB | exact And.left | exact gvN | exact gvP2 | exact gvN2 | exact gvLA); rfl; (first | trivial | exact id | exact And.right | exact gvA | exact gvB | exact And.left | exact gvN | exact gvP2 | exact gvN2 | exact gvLA); rfl; rfl; rfl) | refine U.call1 rfl rfl (by assumption) rfl ?_ | refine G.call1 rfl rfl (by (first | trivial | exact id | exact And.right | exact gvA | exact gvB | exact And.left | exact gvN | exact gvP2 | exact gvN2 | exact gvLA)) (by first | assumption | exact fun _ => by assumption) rfl rfl rfl ?_ | refine Tri.skip ?_ | refine Tri.ret ?_ | (refine Tri.cond rfl (fun h => ?_) (fun h => ?_) <;> (try simp at h) <;> (try contradiction)) | fail)
          · refine Comes1.ret rfl (retB ?_)
            rw [hr, hstep]
            rcases h with h | h
            · rw [h.1]
              cases h1 : lowB (bs s)[i] <;> cases h2 : lowB (byteAt s 0) <;> simp_all
            · rw [h.1.1, h.1.2, h.2]; simp
          · refine ⟨i + 1, ⟨hlt, ?_⟩, by omega, Sub.of rfl rfl ⟨rfl, rfl, rfl, rfl, trivial⟩ trivial⟩
            rw [hr, hstep]
            cases h1 : digB (bs s)[i] with
            | true => simp
            | false =>
              rw [h.1 h1]
              cases h2 : lowB (byteAt s 0) with
              | true => simp
              | false => rw [h.2 h1 (by rw [h.1 h1, h2])]; simp
        · refine Comes1.ret rfl (retB ?_)
          have : i = (bs s).length := by omega
          subst this
          rw [hr, List.drop_length, restOk]
end Go.Proofs.YtmhbibfkhbaclaaGreatDoor
