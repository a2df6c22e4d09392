/- Lifting and lowering with a heap that is none: nothing is lifted or lowered. The law LiftNone. -/
import Derived.Test.YtldelbknkkeniaaGreatDoorK27
import Derived.Test.YtldelbknkkeniaaGreatDoorK31
namespace Go.Proofs.YtldelbknkkeniaaGreatDoor
open Go E
set_option maxRecDepth 100000
set_option maxHeartbeats 4000000
set_option linter.unusedVariables false
set_option linter.unusedSimpArgs false
attribute [local irreducible] Tri TriL TriO PO VO E.Pure DOb XOb
theorem lift_p (HN : LexName) (c : List Int) (nc : Bool) (l : List Ty) (n : Bool) (hl : l.length ≤ 200) (hs : smalls l) :
    E.Pure Tryz.prog 6 [tNil, .sl nc (c.map tInt), .sl n (encTys l)] (.tup [.t (.sl true []), .t (tInt 10)]) := by
  have h1 := flatL_p HN l n hl hs
  refine Pure.of2 Tryz.func6 rfl rfl (Nat.le_of_ble_eq_true rfl) rfl ?_
  repeat' (first | refine Tri.seq ?_ | refine Tri.reg ?_ | refine TriL.nil ?_ | (apply U.moveT; rfl; trivial; rfl) | (apply U.assignT; rfl; trivial; rfl) | (apply U.moveU; rfl; trivial; rfl) | (apply U.ext; rfl; trivial; rfl; rfl) | (apply U.pickb; rfl; trivial; rfl; (first | trivial | exact id | exact And.right | exact gvA | exact gvB | exact And.left | exact gvN | exact gvP2 | exact gvN2 | exact gvLA); rfl; (first | trivial | exact id | exact And.right | exact gvA | exact gvB | exact And.left | exact gvN | exact gvP2 | exact gvN2 | exact gvLA); rfl) | (apply G.moveT; rfl; (first | trivial | exact id | exact And.right | exact gvA | exact gvB | exact And.left | exact gvN | exact gvP2 | exact gvN2 | exact gvLA); rfl; rfl; rfl) | (apply G.bin; rfl; (first | trivial | exact id | exact And.right | exact gvA | exact gvB | exact And.left | exact gvN | exact gvP2 | exact gvN2 | exact gvLA); rfl; (first | trivial | exact id | exact And.right | exact gvA | exact gvB | exact And.left | exact gvN | exact gvP2 | exact gvN2 | exact gvLA); rfl; rfl; rfl; rfl) | (apply G.len; rfl; (first | trivial | exact id | exact And.right | exact gvA | exact gvB | exact And.left | exact gvN | exact gvP2 | exact gvN2 | exact gvLA); rfl; rfl; rfl) | (apply G.not; rfl; (first | trivial | exact id | exact And.right | exact gvA | exact gvB | exact And.left | exact gvN | exact gvP2 | exact gvN2 | exact gvLA); rfl; rfl; rfl) | refine Tri.ret ?_ | refine U.callP1 rfl rfl (by assumption) rfl ?_ | (apply U.eqPN; rfl; trivial; rfl; trivial; rfl) | (refine Tri.cond rfl (fun h => ?_) (fun h => ?_) <;> (try simp at h) <;> (try contradiction)) | fail)
  all_goals exact Comes2.trees (.inr rfl) rfl rfl
theorem lowerN_p (HN : LexName) (c : List Val) (nc : Bool) (l : List Ty) (n : Bool) (hl : l.length ≤ 200) (hs : smalls l) :
    E.Pure Tryz.prog 7 [tNil, .sl nc (encVals c), .sl n (encTys l)] (.tup [.t (.sl true []), .t (tInt 10)]) := by
  have h1 := flatL_p HN l n hl hs
  refine Pure.of2 Tryz.func7 rfl rfl (Nat.le_of_ble_eq_true rfl) rfl ?_
  repeat' (first | refine Tri.seq ?_ | refine Tri.reg ?_ | refine TriL.nil ?_ | (apply U.moveT; rfl; trivial; rfl) | (apply U.assignT; rfl; trivial; rfl) | (apply U.moveU; rfl; trivial; rfl) | (apply U.ext; rfl; trivial; rfl; rfl) | (apply U.pickb; rfl; trivial; rfl; (first | trivial | exact id | exact And.right | exact gvA | exact gvB | exact And.left | exact gvN | exact gvP2 | exact gvN2 | exact gvLA); rfl; (first | trivial | exact id | exact And.right | exact gvA | exact gvB | exact And.left | exact gvN | exact gvP2 | exact gvN2 | exact gvLA); rfl) | (apply G.moveT; rfl; (first | trivial | exact id | exact And.right | exact gvA | exact gvB | exact And.left | exact gvN | exact gvP2 | exact gvN2 | exact gvLA); rfl; rfl; rfl) | (apply G.bin; rfl; (first | trivial | exact id | exact And.right | exact gvA | exact gvB | exact And.left | exact gvN | exact gvP2 | exact gvN2 | exact gvLA); rfl; (first | trivial | exact id | exact And.right | exact gvA | exact gvB | exact And.left | exact gvN | exact gvP2 | exact gvN2 | exact gvLA); rfl; rfl; rfl; rfl) | (apply G.len; rfl; (first | trivial | exact id | exact And.right | exact gvA | exact gvB | exact And.left | exact gvN | exact gvP2 | exact gvN2 | exact gvLA); rfl; rfl; rfl) | (apply G.not; rfl; (first | trivial | exact id | exact And.right | exact gvA | exact gvB | exact And.left | exact gvN | exact gvP2 | exact gvN2 | exact gvLA); rfl; rfl; rfl) | refine Tri.ret ?_ | refine U.callP1 rfl rfl (by assumption) rfl ?_ | (apply U.eqPN; rfl; trivial; rfl; trivial; rfl) | (refine Tri.cond rfl (fun h => ?_) (fun h => ?_) <;> (try simp at h) <;> (try contradiction)) | fail)
  all_goals exact Comes2.trees (.inr rfl) rfl rfl
theorem upArgs_p (HN : LexName) (s : Sg) (c : List Int) (nc : Bool) (hs : smallSg s) (ht : s.t.length ≤ 200) :
    E.Pure Tryz.prog 8 [tNil, encSg s, .sl nc (c.map tInt)] (.tup [.t (.sl true []), .t (tInt 10)]) := by
  have h1 := wide_p HN s hs
  have h2 := checkSig_p HN s hs
  have h3 := lift_p HN c nc s.t s.nt ht hs.ts
  have h4 := right_p s ((c.map tInt).length : Int) 1
  refine Pure.of2 Tryz.func8 rfl rfl (Nat.le_of_ble_eq_true rfl) rfl ?_
  rw [encSg_eta] at h1 h2 h4 ⊢
  repeat' (first | refine Tri.seq ?_ | refine Tri.reg ?_ | refine TriL.nil ?_ | (apply U.moveT; rfl; trivial; rfl) | (apply U.assignT; rfl; trivial; rfl) | (apply U.load; rfl; rfl; trivial; rfl; rfl; rfl) | (apply U.fld; rfl; trivial; rfl; infer_instance; decide; rfl) | (apply U.bin; rfl; trivial; rfl; trivial; rfl; rfl) | (apply U.len; rfl; trivial; rfl) | (apply U.loadS; rfl; rfl; trivial; rfl; rfl; rfl; rfl; rfl) | (apply U.ext; rfl; trivial; rfl; rfl) | (apply U.not; rfl; trivial; rfl) | (apply U.boxA; rfl; rfl) | refine U.call1 rfl rfl (by assumption) rfl ?_ | refine Tri.skip ?_ | refine Tri.ret ?_ | refine U.callP3 rfl rfl rfl rfl (by assumption) rfl ?_ | refine U.call4 rfl rfl rfl rfl rfl (by first | assumption | exact all4_ _) rfl ?_ | (refine Tri.cond rfl (fun h => ?_) (fun h => ?_) <;> (try simp at h) <;> (try contradiction)) | fail)
  all_goals exact Comes2.trees (.inr rfl) rfl rfl
theorem downArgs_p (s : Sg) (c : List Val) (nc : Bool) :
    E.Pure Tryz.prog 9 [tNil, encSg s, .sl nc (encVals c)] (.tup [.t (.sl true []), .t (tInt 10)]) := by
  have h0 : false = true → E.Pure Tryz.prog 27 [encSg s, .sl nc (encVals c)] (.one (.t (tInt 0))) := fun h => by cases h
  refine Pure.of2 Tryz.func9 rfl rfl (Nat.le_of_ble_eq_true rfl) rfl ?_
  rw [encSg_eta] at h0 ⊢
  repeat' (first | refine Tri.seq ?_ | refine Tri.reg ?_ | refine TriL.nil ?_ | (apply U.moveT; rfl; trivial; rfl) | (apply U.assignT; rfl; trivial; rfl) | (apply U.pickb; rfl; trivial; rfl; (first | trivial | exact id | exact And.right | exact gvA | exact gvB | exact And.left | exact gvN | exact gvP2 | exact gvN2 | exact gvLA); rfl; (first | trivial | exact id | exact And.right | exact gvA | exact gvB | exact And.left | exact gvN | exact gvP2 | exact gvN2 | exact gvLA); rfl) | (apply U.boxA; rfl; rfl) | (apply G.moveT; rfl; (first | trivial | exact id | exact And.right | exact gvA | exact gvB | exact And.left | exact gvN | exact gvP2 | exact gvN2 | exact gvLA); rfl; rfl; rfl) | (apply G.bin; rfl; (first | trivial | exact id | exact And.right | exact gvA | exact gvB | exact And.left | exact gvN | exact gvP2 | exact gvN2 | exact gvLA); rfl; (first | trivial | exact id | exact And.right | exact gvA | exact gvB | exact And.left | exact gvN | exact gvP2 | exact gvN2 | exact gvLA); rfl; rfl; rfl; rfl) | (apply G.loadS; rfl; rfl; (first | trivial | exact id | exact And.right | exact gvA | exact gvB | exact And.left | exact gvN | exact gvP2 | exact gvN2 | exact gvLA); rfl; rfl; rfl; rfl; rfl; rfl; rfl) | refine G.call2 rfl rfl (by (first | trivial | exact id | exact And.right | exact gvA | exact gvB | exact And.left | exact gvN | exact gvP2 | exact gvN2 | exact gvLA)) rfl (by (first | trivial | exact id | exact And.right | exact gvA | exact gvB | exact And.left | exact gvN | exact gvP2 | exact gvN2 | exact gvLA)) (by first | assumption | exact fun _ => by assumption) rfl rfl rfl ?_ | refine Tri.ret ?_ | (apply U.eqPN; rfl; trivial; rfl; trivial; rfl) | (refine Tri.cond rfl (fun h => ?_) (fun h => ?_) <;> (try simp at h) <;> (try contradiction)) | fail)
  all_goals exact Comes2.trees (.inr rfl) rfl rfl
theorem upResult_p (HN : LexName) (s : Sg) (c : List Int) (nc : Bool) (hs : smallSg s) :
    E.Pure Tryz.prog 10 [tNil, encSg s, .sl nc (c.map tInt)] (.tup [.t (.agg [.v (.int .i64 0), .sl true [], .sl true []]), .t (tInt 10)]) := by
  have h1 := Flat_p HN s.r hs.r
  have all4_ := fun k => right_p s ((c.map tInt).length : Int) k
  rw [encTy_eta] at h1
  refine Pure.ofCT rfl Tryz.func10 rfl rfl (Nat.le_of_ble_eq_true rfl) rfl ?_
  rw [encSg_eta] at all4_ ⊢
  repeat' (first | refine Tri.seq ?_ | refine Tri.reg ?_ | refine TriL.nil ?_ | (apply U.assignT; rfl; trivial; rfl) | (apply U.boxA; rfl; rfl) | (apply U.alloc; rfl; rfl; rfl; rfl) | fail)
  refine Tri.regX mixed (by kernel_rfl) rfl rfl ?_
  repeat' (first | refine Tri.seq ?_ | refine Tri.reg ?_ | refine TriL.nil ?_ | exact Yes.mk rfl | refine X.nil ?_ | (apply X.a; rfl) | exact ⟨rfl, rfl, rfl⟩ | (apply U.moveT; rfl; trivial; rfl) | (apply U.assignT; rfl; trivial; rfl) | (apply U.fld; rfl; trivial; rfl; infer_instance; decide; rfl) | (apply U.len; rfl; trivial; rfl) | (apply U.loadS; rfl; rfl; trivial; rfl; rfl; rfl; rfl; rfl) | (apply U.not; rfl; trivial; rfl) | (apply U.storeS; rfl; rfl; rfl; rfl; rfl; rfl; rfl; rfl) | (apply U.min; rfl; trivial; rfl; trivial; rfl) | refine U.call1 rfl rfl (by assumption) rfl ?_ | refine Tri.ret ?_ | (apply U.build; rfl; rfl; rfl; rfl; rfl) | refine U.call4 rfl rfl rfl rfl rfl (by first | assumption | exact all4_ _) rfl ?_ | (refine Tri.cond rfl (fun h => ?_) (fun h => ?_) <;> (try simp at h) <;> (try contradiction)) | fail)
  exact ComesCT.trees (.inr rfl) rfl rfl rfl rfl (.tree rfl (.tree rfl (.tree rfl .nil)))
theorem downResult_p (s : Sg) (v : T) (k : Int) (hv : v = .agg [.v (.int .i64 0), .sl true [], .sl true []]) :
    E.Pure Tryz.prog 11 [tNil, encSg s, v, tInt k] (.tup [.t (.sl true []), .t (tInt 10)]) := by
  subst hv
  have h2 := right_p s 0 0
  refine Pure.of2 Tryz.func11 rfl rfl (Nat.le_of_ble_eq_true rfl) rfl ?_
  rw [encSg_eta] at h2 ⊢
  repeat' (first | refine Tri.seq ?_ | refine Tri.reg ?_ | refine TriL.nil ?_ | (apply U.moveT; rfl; trivial; rfl) | (apply U.assignT; rfl; trivial; rfl) | (apply U.loadS; rfl; rfl; trivial; rfl; rfl; rfl; rfl; rfl) | (apply U.not; rfl; trivial; rfl) | (apply U.boxA; rfl; rfl) | refine Tri.ret ?_ | refine U.call4 rfl rfl rfl rfl rfl (by first | assumption | exact all4_ _) rfl ?_ | (refine Tri.cond rfl (fun h => ?_) (fun h => ?_) <;> (try simp at h) <;> (try contradiction)) | fail)
  exact Comes2.trees (.inr rfl) rfl rfl
theorem lights_p (l : List Val) (nl : Bool) (hl : l.length ≤ big) (hs : smallVs l) :
    E.Pure Tryz.prog 4 [.sl nl (encVals l)] (.one (.t (tBool (l.all lightB && decide (l.length ≤ 100))))) := by
  unfold big at hl
  have hlen := encVals_length l
  refine Pure.of1 Tryz.func4 rfl rfl (Nat.le_of_ble_eq_true rfl) rfl ?_
  repeat' (first | refine Tri.seq ?_ | refine Tri.reg ?_ | refine TriL.nil ?_ | (apply U.assignT; rfl; trivial; rfl) | refine Tri.block ?_ | fail)
  refine Tri.loopS (α := Nat) (fun i => ⟨[(3, .t (tInt i)), (0, .t (.sl nl (encVals l)))], Tryz.f4.ntmps, [], 0, 0⟩)
    (fun i => i ≤ l.length ∧ l.all lightB = (l.drop i).all lightB) (fun i => l.length - i) 0 ⟨Nat.zero_le _, rfl⟩ ?_ ?_
  · exact Sub.of rfl rfl ⟨rfl, rfl, trivial⟩ trivial
  · rintro i ⟨hi, ha⟩
    repeat' (first | refine Tri.seq ?_ | refine Tri.reg ?_ | refine TriL.nil ?_ | (apply U.moveT; rfl; trivial; rfl) | (apply U.assignT; rfl; trivial; rfl) | (apply U.bin; rfl; trivial; rfl; trivial; rfl; rfl) | (apply U.len; rfl; trivial; rfl) | refine Tri.skip ?_ | refine Tri.block ?_ | refine Tri.exit ?_ | refine Tri.ret ?_ | (refine Tri.cond rfl (fun h => ?_) (fun h => ?_) <;> (try simp at h) <;> (try contradiction)) | fail)
    · have hlt : i < l.length := by omega
      have hget := get_val hlt
      have h1 := light_p l[i] (smallVs_get hs (List.getElem?_eq_getElem hlt))
      rw [encVal_eta] at h1
      rw [List.drop_eq_getElem_cons hlt, List.all_cons] at ha
      repeat' (first | refine Tri.seq ?_ | refine Tri.reg ?_ | refine TriL.nil ?_ | (apply U.moveT; rfl; trivial; rfl) | (apply U.assignT; rfl; trivial; rfl) | (apply U.add; rfl; trivial; rfl; trivial; exact fun _ => wrap_i64 (by omega) (by omega); rfl) | (apply U.loadES; rfl; rfl; trivial; rfl; rfl; rfl) | (apply U.not; rfl; trivial; rfl) | (apply U.idx; rfl; trivial; rfl; trivial; exact fun _ => (by omega); exact fun _ => (by assumption); exact fun _ => rfl; rfl) | refine U.call1 rfl rfl (by assumption) rfl ?_ | refine Tri.skip ?_ | refine Tri.ret ?_ | (refine Tri.cond rfl (fun h => ?_) (fun h => ?_) <;> (try simp at h) <;> (try contradiction)) | fail)
      · refine Comes1.ret rfl (retB ?_)
        rw [ha]; simp [h]
      · exact ⟨i + 1, ⟨by omega, by rw [ha]; simp [h]⟩, by omega, Sub.of rfl rfl ⟨rfl, rfl, trivial⟩ trivial⟩
    · refine Comes1.ret rfl (retB ?_)
      rw [ha, List.drop_eq_nil_of_le (by omega)]
      simp; omega
theorem liftNone_p (s : Sg) (c : List Int) (nc : Bool) (l : List Val) (nl : Bool) (k : Int) (hs : smallSg s) (hc : c.length ≤ big ∧ ∀ x ∈ c, inI x) (hl : l.length ≤ big ∧ smallVs l) (hk : inI k) :
    E.Pure Tryz.prog 3 [encSg s, .sl nc (c.map tInt), .sl nl (encVals l), tInt k] (.one (.t (tBool true))) := by
  have h1 := lights_p l nl hl.1 hl.2
  have h2 := awake_p
  have hlen := encTys_length s.t
  refine Pure.of1 Tryz.func3 rfl rfl (Nat.le_of_ble_eq_true rfl) rfl ?_
  rw [encSg_eta]
  repeat' (first | refine Tri.seq ?_ | refine Tri.reg ?_ | refine TriL.nil ?_ | (apply U.moveT; rfl; trivial; rfl) | (apply U.assignT; rfl; trivial; rfl) | (apply U.load; rfl; rfl; trivial; rfl; rfl; rfl) | (apply U.fld; rfl; trivial; rfl; infer_instance; decide; rfl) | (apply U.not; rfl; trivial; rfl) | (apply U.pickb; rfl; trivial; rfl; (first | trivial | exact id | exact And.right | exact gvA | exact gvB | exact And.left | exact gvN | exact gvP2 | exact gvN2 | exact gvLA); rfl; (first | trivial | exact id | exact And.right | exact gvA | exact gvB | exact And.left | exact gvN | exact gvP2 | exact gvN2 | exact gvLA); rfl) | (apply U.boxA; rfl; rfl) | (apply G.moveT; rfl; (first | trivial | exact id | exact And.right | exact gvA | exact gvB | exact And.left | exact gvN | exact gvP2 | exact gvN2 | exact gvLA); rfl; rfl; rfl) | (apply G.load; rfl; rfl; (first | trivial | exact id | exact And.right | exact gvA | exact gvB | exact And.left | exact gvN | exact gvP2 | exact gvN2 | exact gvLA); rfl; rfl; rfl; rfl; rfl) | (apply G.fld; rfl; (first | trivial | exact id | exact And.right | exact gvA | exact gvB | exact And.left | exact gvN | exact gvP2 | exact gvN2 | exact gvLA); rfl; infer_instance; decide; rfl; rfl; rfl) | (apply G.bin; rfl; (first | trivial | exact id | exact And.right | exact gvA | exact gvB | exact And.left | exact gvN | exact gvP2 | exact gvN2 | exact gvLA); rfl; (first | trivial | exact id | exact And.right | exact gvA | exact gvB | exact And.left | exact gvN | exact gvP2 | exact gvN2 | exact gvLA); rfl; rfl; rfl; rfl) | (apply G.len; rfl; (first | trivial | exact id | exact And.right | exact gvA | exact gvB | exact And.left | exact gvN | exact gvP2 | exact gvN2 | exact gvLA); rfl; rfl; rfl) | refine U.call1 rfl rfl (by assumption) rfl ?_ | refine Tri.skip ?_ | refine Tri.ret ?_ | refine U.call0 rfl (by assumption) rfl ?_ | (refine Tri.cond rfl (fun h => ?_) (fun h => ?_) <;> (try simp at h) <;> (try contradiction)) | fail)
  · exact Comes1.ret rfl rfl
  · have ht : s.t.length ≤ 200 := by omega
    have h3 := lift_p lexName_p c nc s.t s.nt ht hs.ts
    have h4 := lowerN_p lexName_p l nl s.t s.nt ht hs.ts
    have h5 := upArgs_p lexName_p s c nc hs ht
    have h6 := downArgs_p s l nl
    have h7 := upResult_p lexName_p s c nc hs
    have h8 := downResult_p s _ k rfl
    rw [encSg_eta] at h5 h6 h7 h8
    repeat' (first | refine Tri.seq ?_ | refine Tri.reg ?_ | refine TriL.nil ?_ | (apply U.moveT; rfl; trivial; rfl) | (apply U.assignT; rfl; trivial; rfl) | (apply U.moveU; rfl; trivial; rfl) | (apply U.load; rfl; rfl; trivial; rfl; rfl; rfl) | (apply U.fld; rfl; trivial; rfl; infer_instance; decide; rfl) | (apply U.bin; rfl; trivial; rfl; trivial; rfl; rfl) | (apply U.len; rfl; trivial; rfl) | (apply U.loadS; rfl; rfl; trivial; rfl; rfl; rfl; rfl; rfl) | (apply U.ext; rfl; trivial; rfl; rfl) | (apply U.pickb; rfl; trivial; rfl; (first | trivial | exact id | exact And.right | exact gvA | exact gvB | exact And.left | exact gvN | exact gvP2 | exact gvN2 | exact gvLA); rfl; (first | trivial | exact id | exact And.right | exact gvA | exact gvB | exact And.left | exact gvN | exact gvP2 | exact gvN2 | exact gvLA); rfl) | (apply U.alloc; rfl; rfl; rfl; rfl) | (apply U.storeS; rfl; rfl; rfl; rfl; rfl; rfl; rfl; rfl) | (apply G.moveT; rfl; (first | trivial | exact id | exact And.right | exact gvA | exact gvB | exact And.left | exact gvN | exact gvP2 | exact gvN2 | exact gvLA); rfl; rfl; rfl) | (apply G.bin; rfl; (first | trivial | exact id | exact And.right | exact gvA | exact gvB | exact And.left | exact gvN | exact gvP2 | exact gvN2 | exact gvLA); rfl; (first | trivial | exact id | exact And.right | exact gvA | exact gvB | exact And.left | exact gvN | exact gvP2 | exact gvN2 | exact gvLA); rfl; rfl; rfl; rfl) | (apply G.len; rfl; (first | trivial | exact id | exact And.right | exact gvA | exact gvB | exact And.left | exact gvN | exact gvP2 | exact gvN2 | exact gvLA); rfl; rfl; rfl) | refine Tri.ret ?_ | (apply U.build; rfl; rfl; rfl; rfl; rfl) | refine G.call0 rfl (by first | assumption | exact fun _ => by assumption) rfl rfl rfl ?_ | refine U.callP3 rfl rfl rfl rfl (by assumption) rfl ?_ | refine U.callP4 rfl rfl rfl rfl rfl (by assumption) rfl ?_ | fail)
    exact Comes1.ret rfl rfl
end Go.Proofs.YtldelbknkkeniaaGreatDoor
