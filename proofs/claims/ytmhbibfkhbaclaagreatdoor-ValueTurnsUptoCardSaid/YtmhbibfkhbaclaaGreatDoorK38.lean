/- Values: when they are the same. -/
import Derived.Test.YtmhbibfkhbaclaaGreatDoorK36
namespace Go.Proofs.YtmhbibfkhbaclaaGreatDoor
open Go E
set_option maxRecDepth 100000
set_option maxHeartbeats 4000000
set_option linter.unusedVariables false
set_option linter.unusedSimpArgs false
attribute [local irreducible] Tri TriL TriO PO VO E.Pure DOb XOb
theorem eqInts_p (a b : List Int) (na nb : Bool) (ha : a.length ≤ big) (hb : b.length ≤ big) : E.Pure Tryz.prog 23 [.sl na (a.map tInt), .sl nb (b.map tInt)] (.one (.t (tBool (decide (a = b))))) := by
  unfold big at ha hb
  refine Pure.of1 Tryz.func23 rfl rfl (Nat.le_of_ble_eq_true rfl) rfl ?_
  repeat' (first | refine Tri.seq ?_ | refine Tri.reg ?_ | refine TriL.nil ?_ | (apply U.moveT; rfl; trivial; rfl) | (apply U.assignT; rfl; trivial; rfl) | (apply U.bin; rfl; trivial; rfl; trivial; rfl; rfl) | (apply U.len; rfl; trivial; rfl) | refine Tri.skip ?_ | refine Tri.block ?_ | refine Tri.ret ?_ | (refine Tri.cond rfl (fun h => ?_) (fun h => ?_) <;> (try simp at h) <;> (try contradiction)) | fail)
  · refine Comes1.ret rfl (retV (decide_eq_false fun e => h ?_).symm)
    rw [e]
  · have hla : (a.map tInt).length = a.length := by simp
    refine Tri.loopS (α := Nat) (fun i => ⟨[(13, .t (tInt i)), (12, .t (tInt a.length)), (1, .t (.sl nb (b.map tInt))), (0, .t (.sl na (a.map tInt)))], Tryz.f23.ntmps, [], 0, 0⟩)
      (fun i => i ≤ a.length ∧ (a = b ↔ a.drop i = b.drop i)) (fun i => a.length - i) 0 ?_ ?_ ?_
    · exact ⟨Nat.zero_le _, Iff.rfl⟩
    · refine Sub.of rfl rfl ⟨rfl, ?_, rfl, rfl, trivial⟩ trivial
      rw [← hla]; rfl
    · rintro i ⟨hi, hn⟩
      repeat' (first | refine Tri.seq ?_ | refine Tri.reg ?_ | refine TriL.nil ?_ | (apply U.moveT; rfl; trivial; rfl) | (apply U.assignT; rfl; trivial; rfl) | (apply U.bin; rfl; trivial; rfl; trivial; rfl; rfl) | refine Tri.skip ?_ | refine Tri.block ?_ | refine Tri.exit ?_ | refine Tri.ret ?_ | (refine Tri.cond rfl (fun h => ?_) (fun h => ?_) <;> (try simp at h) <;> (try contradiction)) | fail)
      · have hlt : i < a.length := by omega
        have hlt2 : i < b.length := by omega
        have hg1 := get_int hlt
        have hg2 := get_int hlt2
        rw [List.drop_eq_getElem_cons hlt, List.drop_eq_getElem_cons hlt2, List.cons.injEq] at hn
        refine Tri.regX mixed (by kernel_rfl) rfl rfl ?_
        repeat' (first | refine Tri.seq ?_ | refine Tri.reg ?_ | refine TriL.nil ?_ | exact Yes.mk rfl | refine X.nil ?_ | (apply X.a; rfl) | exact ⟨rfl, rfl, rfl⟩ | (apply U.moveT; rfl; trivial; rfl) | (apply U.assignT; rfl; trivial; rfl) | (apply U.add; rfl; trivial; rfl; trivial; exact fun _ => wrap_i64 (by omega) (by omega); rfl) | (apply U.bin; rfl; trivial; rfl; trivial; rfl; rfl) | (apply U.loadE; rfl; rfl; trivial; rfl; rfl) | (apply U.idx; rfl; trivial; rfl; trivial; exact fun _ => (by omega); exact fun _ => (by assumption); exact fun _ => rfl; rfl) | refine Tri.skip ?_ | refine Tri.ret ?_ | (refine Tri.cond rfl (fun h => ?_) (fun h => ?_) <;> (try simp at h) <;> (try contradiction)) | fail)
        · refine Comes1.ret rfl (retV (decide_eq_false fun e => ?_).symm)
          exact h (hn.1 e).1
        · refine ⟨i + 1, ⟨by omega, ?_⟩, by omega, Sub.of rfl rfl ⟨rfl, rfl, rfl, rfl, trivial⟩ trivial⟩
          rw [hn]; simp [h]
      · refine Comes1.ret rfl (retV (decide_eq_true ?_).symm)
        rw [hn, List.drop_eq_nil_of_le (by omega), List.drop_eq_nil_of_le (by omega)]
abbrev fnSame : T := .v (.func (.func 8) #[] #[])
theorem eqVals_p (a b : List Val) (na nb : Bool) (ha : a.length ≤ big) (hb : b.length ≤ big) (hel : ∀ (i : Nat) (h : i < a.length) (h2 : i < b.length), E.Pure Tryz.prog 8 [agVal a[i], agVal b[i]] (.one (.t (tBool (sameV a[i] b[i]))))) :
    E.Pure Tryz.prog 24 [.sl na (encVals a), .sl nb (encVals b), fnSame] (.one (.t (tBool (sameVs a b)))) := by
  unfold big at ha hb
  have hla := encVals_length a
  have hlb := encVals_length b
  refine Pure.of1 Tryz.func24 rfl rfl (Nat.le_of_ble_eq_true rfl) rfl ?_
  repeat' (first | refine Tri.seq ?_ | refine Tri.reg ?_ | refine TriL.nil ?_ | (apply U.moveT; rfl; trivial; rfl) | (apply U.assignT; rfl; trivial; rfl) | (apply U.bin; rfl; trivial; rfl; trivial; rfl; rfl) | (apply U.len; rfl; trivial; rfl) | refine Tri.skip ?_ | refine Tri.block ?_ | refine Tri.ret ?_ | (refine Tri.cond rfl (fun h => ?_) (fun h => ?_) <;> (try simp at h) <;> (try contradiction)) | fail)
  · exact Comes1.ret rfl (retV (sameVs_len (by omega)).symm)
  · refine Tri.loopS (α := Nat) (fun i => ⟨[(17, .t (tInt i)), (16, .t (tInt a.length)), (15, .t (.sl na (encVals a))), (2, .t fnSame), (1, .t (.sl nb (encVals b))), (0, .t (.sl na (encVals a)))], Tryz.f24.ntmps, [], 0, 0⟩)
      (fun i => i ≤ a.length ∧ sameVs a b = sameVs (a.drop i) (b.drop i)) (fun i => a.length - i) 0 ?_ ?_ ?_
    · exact ⟨Nat.zero_le _, rfl⟩
    · refine Sub.of rfl rfl ⟨rfl, ?_, rfl, rfl, rfl, rfl, trivial⟩ trivial
      rw [← hla]; rfl
    · rintro i ⟨hi, hn⟩
      repeat' (first | refine Tri.seq ?_ | refine Tri.reg ?_ | refine TriL.nil ?_ | (apply U.moveT; rfl; trivial; rfl) | (apply U.assignT; rfl; trivial; rfl) | (apply U.bin; rfl; trivial; rfl; trivial; rfl; rfl) | refine Tri.skip ?_ | refine Tri.block ?_ | refine Tri.exit ?_ | refine Tri.ret ?_ | (refine Tri.cond rfl (fun h => ?_) (fun h => ?_) <;> (try simp at h) <;> (try contradiction)) | fail)
      · have hlt : i < a.length := by omega
        have hlt2 : i < b.length := by omega
        have hg1 := get_val hlt
        have hg2 := get_val hlt2
        have hc := hel i hlt hlt2
        rw [sameVs_step hlt hlt2] at hn
        repeat' (first | refine Tri.seq ?_ | refine Tri.reg ?_ | refine TriL.nil ?_ | (apply U.moveT; rfl; trivial; rfl) | (apply U.assignT; rfl; trivial; rfl) | (apply U.add; rfl; trivial; rfl; trivial; exact fun _ => wrap_i64 (by omega) (by omega); rfl) | (apply U.loadES; rfl; rfl; trivial; rfl; rfl; rfl) | (apply U.loadS; rfl; rfl; trivial; rfl; rfl; rfl; rfl; rfl) | (apply U.not; rfl; trivial; rfl) | (apply U.idx; rfl; trivial; rfl; trivial; exact fun _ => (by omega); exact fun _ => (by assumption); exact fun _ => rfl; rfl) | (apply U.alloc; rfl; rfl; rfl; rfl) | (apply U.storeS; rfl; rfl; rfl; rfl; rfl; rfl; rfl; rfl) | refine U.call2 rfl rfl rfl (by assumption) rfl ?_ | refine Tri.skip ?_ | refine Tri.ret ?_ | (refine Tri.cond rfl (fun h => ?_) (fun h => ?_) <;> (try simp at h) <;> (try contradiction)) | fail)
        · refine Comes1.ret rfl (retV ?_)
          rw [hn]; simp [h]
        · refine ⟨i + 1, ⟨by omega, ?_⟩, by omega, Sub.ofn (Nat.zero_le _) rfl ⟨rfl, rfl, rfl, rfl, rfl, rfl, trivial⟩ trivial rfl rfl⟩
          rw [hn]; simp [h]
      · refine Comes1.ret rfl (retV ?_)
        rw [hn, List.drop_eq_nil_of_le (by omega), List.drop_eq_nil_of_le (by omega), sameVs_nil]
theorem same_v : ∀ (m : Nat) (v w : Val), SizeOf.sizeOf v ≤ m → smallV v → smallV w → E.Pure Tryz.prog 8 [encVal v, encVal w] (.one (.t (tBool (sameV v w)))) := by
  intro m
  induction m with
  | zero => intro v w hm; cases v; simp at hm
  | succ m ih =>
    intro v w hm hs ht
    have h1 := eqInts_p v.s w.s v.ns w.ns (smallV_s hs) (smallV_s ht)
    have h2 := eqVals_p v.l w.l v.nl w.nl (smallV_l hs) (smallV_l ht) fun i hi hj => by
      have := ih v.l[i] w.l[i] (by have := vsize_get hi v rfl; omega) (smallVs_get (smallV_ls hs) (List.getElem?_eq_getElem hi)) (smallVs_get (smallV_ls ht) (List.getElem?_eq_getElem hj))
      rwa [encVal_eta, encVal_eta] at this
    refine Pure.of1 Tryz.func8 rfl rfl (Nat.le_of_ble_eq_true rfl) rfl ?_
    rw [encVal_eta, encVal_eta]
    repeat' (first | refine Tri.seq ?_ | refine Tri.reg ?_ | refine TriL.nil ?_ | (apply U.moveT; rfl; trivial; rfl) | (apply U.assignT; rfl; trivial; rfl) | (apply U.load; rfl; rfl; trivial; rfl; rfl; rfl) | (apply U.fld; rfl; trivial; rfl; infer_instance; decide; rfl) | (apply U.bin; rfl; trivial; rfl; trivial; rfl; rfl) | (apply U.pickb; rfl; trivial; rfl; (first | trivial | exact id | exact And.right | exact gvA | exact gvB | exact And.left | exact gvN | exact gvP2 | exact gvN2 | exact gvLA); rfl; (first | trivial | exact id | exact And.right | exact gvA | exact gvB | exact And.left | exact gvN | exact gvP2 | exact gvN2 | exact gvLA); rfl) | (apply U.boxA; rfl; rfl) | (apply G.load; rfl; rfl; (first | trivial | exact id | exact And.right | exact gvA | exact gvB | exact And.left | exact gvN | exact gvP2 | exact gvN2 | exact gvLA); rfl; rfl; rfl; rfl; rfl) | (apply G.fld; rfl; (first | trivial | exact id | exact And.right | exact gvA | exact gvB | exact And.left | exact gvN | exact gvP2 | exact gvN2 | exact gvLA); rfl; infer_instance; decide; rfl; rfl; rfl) | refine G.call2 rfl rfl (by (first | trivial | exact id | exact And.right | exact gvA | exact gvB | exact And.left | exact gvN | exact gvP2 | exact gvN2 | exact gvLA)) rfl (by (first | trivial | exact id | exact And.right | exact gvA | exact gvB | exact And.left | exact gvN | exact gvP2 | exact gvN2 | exact gvLA)) (by first | assumption | exact fun _ => by assumption) rfl rfl rfl ?_ | refine Tri.ret ?_ | refine G.call3 rfl rfl (by (first | trivial | exact id | exact And.right | exact gvA | exact gvB | exact And.left | exact gvN | exact gvP2 | exact gvN2 | exact gvLA)) rfl (by (first | trivial | exact id | exact And.right | exact gvA | exact gvB | exact And.left | exact gvN | exact gvP2 | exact gvN2 | exact gvLA)) rfl (by (first | trivial | exact id | exact And.right | exact gvA | exact gvB | exact And.left | exact gvN | exact gvP2 | exact gvN2 | exact gvLA)) (by first | assumption | exact fun _ => by assumption) rfl rfl rfl ?_ | fail)
    refine Comes1.ret rfl (retV ?_)
    rw [sameV_eq]
    simp
theorem same_r : ∀ (m : Nat) (v w : Val), SizeOf.sizeOf v ≤ m → smallV v → smallV w → E.Pure Tryz.prog 12 [encVal v, encVal w] (.one (.t (tBool (sameV v w)))) := by
  intro m
  induction m with
  | zero => intro v w hm; cases v; simp at hm
  | succ m ih =>
    intro v w hm hs ht
    have h1 := sameInts_p v.s w.s v.ns w.ns (smallV_s hs) (smallV_s ht)
    have hb1 := smallV_l hs
    have hb2 := smallV_l ht
    unfold big at hb1 hb2
    have hlv := encVals_length v.l
    have hlw := encVals_length w.l
    refine Pure.of1 Tryz.func12 rfl rfl (Nat.le_of_ble_eq_true rfl) rfl ?_
    rw [encVal_eta, encVal_eta]
    repeat' (first | refine Tri.seq ?_ | refine Tri.reg ?_ | refine TriL.nil ?_ | (apply U.moveT; rfl; trivial; rfl) | (apply U.assignT; rfl; trivial; rfl) | (apply U.load; rfl; rfl; trivial; rfl; rfl; rfl) | (apply U.fld; rfl; trivial; rfl; infer_instance; decide; rfl) | (apply U.bin; rfl; trivial; rfl; trivial; rfl; rfl) | (apply U.pickb; rfl; trivial; rfl; (first | trivial | exact id | exact And.right | exact gvA | exact gvB | exact And.left | exact gvN | exact gvP2 | exact gvN2 | exact gvLA); rfl; (first | trivial | exact id | exact And.right | exact gvA | exact gvB | exact And.left | exact gvN | exact gvP2 | exact gvN2 | exact gvLA); rfl) | (apply U.boxA; rfl; rfl) | (apply G.load; rfl; rfl; (first | trivial | exact id | exact And.right | exact gvA | exact gvB | exact And.left | exact gvN | exact gvP2 | exact gvN2 | exact gvLA); rfl; rfl; rfl; rfl; rfl) | (apply G.fld; rfl; (first | trivial | exact id | exact And.right | exact gvA | exact gvB | exact And.left | exact gvN | exact gvP2 | exact gvN2 | exact gvLA); rfl; infer_instance; decide; rfl; rfl; rfl) | (apply G.bin; rfl; (first | trivial | exact id | exact And.right | exact gvA | exact gvB | exact And.left | exact gvN | exact gvP2 | exact gvN2 | exact gvLA); rfl; (first | trivial | exact id | exact And.right | exact gvA | exact gvB | exact And.left | exact gvN | exact gvP2 | exact gvN2 | exact gvLA); rfl; rfl; rfl; rfl) | (apply G.len; rfl; (first | trivial | exact id | exact And.right | exact gvA | exact gvB | exact And.left | exact gvN | exact gvP2 | exact gvN2 | exact gvLA); rfl; rfl; rfl) | (apply G.not; rfl; (first | trivial | exact id | exact And.right | exact gvA | exact gvB | exact And.left | exact gvN | exact gvP2 | exact gvN2 | exact gvLA); rfl; rfl; rfl) | refine G.call2 rfl rfl (by (first | trivial | exact id | exact And.right | exact gvA | exact gvB | exact And.left | exact gvN | exact gvP2 | exact gvN2 | exact gvLA)) rfl (by (first | trivial | exact id | exact And.right | exact gvA | exact gvB | exact And.left | exact gvN | exact gvP2 | exact gvN2 | exact gvLA)) (by first | assumption | exact fun _ => by assumption) rfl rfl rfl ?_ | refine Tri.skip ?_ | refine Tri.block ?_ | refine Tri.ret ?_ | (refine Tri.cond rfl (fun h => ?_) (fun h => ?_) <;> (try simp at h) <;> (try contradiction)) | fail)
    · refine Comes1.ret rfl (retV ?_)
      rw [sameV_eq]
      rcases h with (h | h) | h
      · simp [h]
      · simp [h]
      · rw [sameVs_len (by omega), Bool.and_false]
    · refine Tri.loopS (α := Nat) (fun i => ⟨[(5, .t (tInt i)), (3, .ptr 1 0), (2, .ptr 0 0)], Tryz.f12.ntmps, [(1, .obj [.t (.v (.int .i64 w.n)), .t (.sl w.ns (w.s.map tInt)), .t (.sl w.nl (encVals w.l))]), (0, .obj [.t (.v (.int .i64 v.n)), .t (.sl v.ns (v.s.map tInt)), .t (.sl v.nl (encVals v.l))])], 0, 2⟩)
        (fun i => i ≤ v.l.length ∧ sameV v w = sameVs (v.l.drop i) (w.l.drop i)) (fun i => v.l.length - i) 0 ?_ ?_ ?_
      · refine ⟨Nat.zero_le _, ?_⟩
        rw [sameV_eq, h.1.1, h.1.2]; simp
      · exact Sub.of rfl rfl ⟨rfl, rfl, rfl, trivial⟩ ⟨rfl, rfl, trivial⟩
      · rintro i ⟨hi, hn⟩
        repeat' (first | refine Tri.seq ?_ | refine Tri.reg ?_ | refine TriL.nil ?_ | (apply U.moveT; rfl; trivial; rfl) | (apply U.assignT; rfl; trivial; rfl) | (apply U.load; rfl; rfl; trivial; rfl; rfl; rfl) | (apply U.fld; rfl; trivial; rfl; infer_instance; decide; rfl) | (apply U.bin; rfl; trivial; rfl; trivial; rfl; rfl) | (apply U.len; rfl; trivial; rfl) | refine Tri.skip ?_ | refine Tri.block ?_ | refine Tri.exit ?_ | refine Tri.ret ?_ | (refine Tri.cond rfl (fun h => ?_) (fun h => ?_) <;> (try simp at h) <;> (try contradiction)) | fail)
        · have hlt : i < v.l.length := by omega
          have hlt2 : i < w.l.length := by omega
          have hg1 := get_val hlt
          have hg2 := get_val hlt2
          have hc := ih v.l[i] w.l[i] (by have := vsize_get hlt v rfl; omega) (smallVs_get (smallV_ls hs) (List.getElem?_eq_getElem hlt)) (smallVs_get (smallV_ls ht) (List.getElem?_eq_getElem hlt2))
          rw [encVal_eta, encVal_eta] at hc
          rw [sameVs_step hlt hlt2] at hn
          refine Tri.regX mixed (by kernel_rfl) rfl rfl ?_
          repeat' (first | refine Tri.seq ?_ | refine Tri.reg ?_ | refine TriL.nil ?_ | exact Yes.mk rfl | refine X.nil ?_ | (apply X.a; rfl) | exact ⟨rfl, rfl, rfl⟩ | (apply U.moveT; rfl; trivial; rfl) | (apply U.assignT; rfl; trivial; rfl) | (apply U.load; rfl; rfl; trivial; rfl; rfl; rfl) | (apply U.fld; rfl; trivial; rfl; infer_instance; decide; rfl) | (apply U.add; rfl; trivial; rfl; trivial; exact fun _ => wrap_i64 (by omega) (by omega); rfl) | (apply U.loadES; rfl; rfl; trivial; rfl; rfl; rfl) | (apply U.not; rfl; trivial; rfl) | (apply U.idx; rfl; trivial; rfl; trivial; exact fun _ => (by omega); exact fun _ => (by assumption); exact fun _ => rfl; rfl) | refine U.call2 rfl rfl rfl (by assumption) rfl ?_ | refine Tri.skip ?_ | refine Tri.ret ?_ | (refine Tri.cond rfl (fun h => ?_) (fun h => ?_) <;> (try simp at h) <;> (try contradiction)) | fail)
          · refine Comes1.ret rfl (retV ?_)
            rw [hn]; simp [h]
          · refine ⟨i + 1, ⟨by omega, ?_⟩, by omega, Sub.of rfl rfl ⟨rfl, rfl, rfl, trivial⟩ ⟨rfl, rfl, trivial⟩⟩
            rw [hn]; simp [h]
        · refine Comes1.ret rfl (retV ?_)
          rw [hn, List.drop_eq_nil_of_le (by omega), List.drop_eq_nil_of_le (by omega), sameVs_nil]
end Go.Proofs.YtmhbibfkhbaclaaGreatDoor
