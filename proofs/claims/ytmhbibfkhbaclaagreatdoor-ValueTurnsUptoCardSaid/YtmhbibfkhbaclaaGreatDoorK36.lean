/- Lists of numbers that are the same: the reference. -/
import Derived.Test.YtmhbibfkhbaclaaGreatDoorK21
namespace Go.Proofs.YtmhbibfkhbaclaaGreatDoor
open Go E
set_option maxRecDepth 100000
set_option maxHeartbeats 4000000
set_option linter.unusedVariables false
set_option linter.unusedSimpArgs false
attribute [local irreducible] Tri TriL TriO PO VO E.Pure DOb XOb
theorem sameInts_p (a b : List Int) (na nb : Bool) (ha : a.length ≤ big) (hb : b.length ≤ big) : E.Pure Tryz.prog 13 [.sl na (a.map tInt), .sl nb (b.map tInt)] (.one (.t (tBool (decide (a = b))))) := by
  unfold big at ha hb
  refine Pure.of1 Tryz.func13 rfl rfl (Nat.le_of_ble_eq_true rfl) rfl ?_
  repeat' (first | refine Tri.seq ?_ | refine Tri.reg ?_ | refine TriL.nil ?_ | (apply U.moveT; rfl; trivial; rfl) | (apply U.assignT; rfl; trivial; rfl) | (apply U.bin; rfl; trivial; rfl; trivial; rfl; rfl) | (apply U.len; rfl; trivial; rfl) | refine Tri.skip ?_ | refine Tri.block ?_ | refine Tri.ret ?_ | (refine Tri.cond rfl (fun h => ?_) (fun h => ?_) <;> (try simp at h) <;> (try contradiction)) | fail)
  · refine Comes1.ret rfl (retV (decide_eq_false fun e => h ?_).symm)
    rw [e]
  · have hla : (a.map tInt).length = a.length := by simp
    refine Tri.loopS (α := Nat) (fun i => ⟨[(5, .t (tInt i)), (1, .t (.sl nb (b.map tInt))), (0, .t (.sl na (a.map tInt)))], Tryz.f13.ntmps, [], 0, 0⟩)
      (fun i => i ≤ a.length ∧ (a = b ↔ a.drop i = b.drop i)) (fun i => a.length - i) 0 ?_ ?_ ?_
    · exact ⟨Nat.zero_le _, Iff.rfl⟩
    · exact Sub.of rfl rfl ⟨rfl, rfl, rfl, trivial⟩ trivial
    · rintro i ⟨hi, hn⟩
      repeat' (first | refine Tri.seq ?_ | refine Tri.reg ?_ | refine TriL.nil ?_ | (apply U.moveT; rfl; trivial; rfl) | (apply U.assignT; rfl; trivial; rfl) | (apply U.bin; rfl; trivial; rfl; trivial; rfl; rfl) | (apply U.len; rfl; trivial; rfl) | refine Tri.skip ?_ | refine Tri.block ?_ | refine Tri.exit ?_ | refine Tri.ret ?_ | (refine Tri.cond rfl (fun h => ?_) (fun h => ?_) <;> (try simp at h) <;> (try contradiction)) | fail)
      · have hlt : i < a.length := by omega
        have hlt2 : i < b.length := by omega
        have hg1 := get_int hlt
        have hg2 := get_int hlt2
        rw [List.drop_eq_getElem_cons hlt, List.drop_eq_getElem_cons hlt2, List.cons.injEq] at hn
        refine Tri.regX mixed (by kernel_rfl) rfl rfl ?_
        repeat' (first | refine Tri.seq ?_ | refine Tri.reg ?_ | refine TriL.nil ?_ | exact Yes.mk rfl | refine X.nil ?_ | (apply X.a; rfl) | exact ⟨rfl, rfl, rfl⟩ | (apply U.moveT; rfl; trivial; rfl) | (apply U.assignT; rfl; trivial; rfl) | (apply U.add; rfl; trivial; rfl; trivial; exact fun _ => wrap_i64 (by omega) (by omega); rfl) | (apply U.bin; rfl; trivial; rfl; trivial; rfl; rfl) | (apply U.loadE; rfl; rfl; trivial; rfl; rfl) | (apply U.idx; rfl; trivial; rfl; trivial; exact fun _ => (by omega); exact fun _ => (by assumption); exact fun _ => rfl; rfl) | refine Tri.skip ?_ | refine Tri.ret ?_ | (refine Tri.cond rfl (fun h => ?_) (fun h => ?_) <;> (try simp at h) <;> (try contradiction)) | fail)
        · refine Comes1.ret rfl (retV (decide_eq_false fun e => ?_).symm)
          exact h (hn.1 e).1
        · refine ⟨i + 1, ⟨by omega, ?_⟩, by omega, Sub.of rfl rfl ⟨rfl, rfl, rfl, trivial⟩ trivial⟩
          rw [hn]; simp [h]
      · refine Comes1.ret rfl (retV (decide_eq_true ?_).symm)
        rw [hn, List.drop_eq_nil_of_le (by omega), List.drop_eq_nil_of_le (by omega)]
end Go.Proofs.YtmhbibfkhbaclaaGreatDoor
