/- Lifting and lowering with a heap that is none: the code. -/
import Derived.Test.YtldelbknkkeniaaGreatDoorK20
import Derived.Test.YtldelbknkkeniaaGreatDoorK22
import Derived.Test.YtldelbknkkeniaaGreatDoorK25
import Derived.Test.YtldelbknkkeniaaGreatDoorK26
namespace Go.Proofs.YtldelbknkkeniaaGreatDoor
open Go E
set_option maxRecDepth 100000
set_option maxHeartbeats 4000000
set_option linter.unusedVariables false
set_option linter.unusedSimpArgs false
theorem Comes2.froz {t u : Tmp} {x y : T} {e : Ex} {s : St} {b e1 len cap : Nat} {ys : List T} {fz : Bool} (he : e = .normal ∨ e = .ret) (h1 : s.ev (.tmp t) = .ref b e1 0 len cap) (hb : E.look b s.heap = some (.row e1 ys fz)) (hl : len ≤ ys.length) (hx : T.sl false (ys.take len) = x) (h2 : (s.ev (.tmp u)).toT = some y) : Comes2 t u x y e s := by
  refine ⟨he, ?_⟩
  rw [h1, ← hx]
  exact .froz hb (by omega) (.tree h2 .nil)
attribute [local irreducible] Tri TriL TriO PO VO E.Pure DOb XOb
/-- A pointer that is nil. -/
abbrev tNil : T := .v (.pointer none)
theorem argsT_p (HN : LexName) (s : Sg) (hs : smallSg s) : E.Pure Tryz.prog 52 [encSg s] (.one (.t (iT (if maySgB s then rowN s.t else [])))) := by
  have h1 := args_p HN s hs
  generalize (if maySgB s then rowN s.t else []) = l at h1 ⊢
  cases l with
  | nil => exact h1
  | cons x xs => exact h1.frz
def wideB (s : Sg) : Bool := maySgB s && decide (16 < (rowN s.t).length)
theorem wide_p (HN : LexName) (s : Sg) (hs : smallSg s) : E.Pure Tryz.prog 21 [encSg s] (.one (.t (tBool (wideB s)))) := by
  have h1 := argsT_p HN s hs
  refine Pure.of1 Tryz.func21 rfl rfl (Nat.le_of_ble_eq_true rfl) rfl ?_
  rw [encSg_eta] at h1 ⊢
  repeat' (first | refine Tri.seq ?_ | refine Tri.reg ?_ | refine TriL.nil ?_ | (apply U.assignT; rfl; trivial; rfl) | (apply U.bin; rfl; trivial; rfl; trivial; rfl; rfl) | (apply U.len; rfl; trivial; rfl) | (apply U.loadS; rfl; rfl; trivial; rfl; rfl; rfl; rfl; rfl) | (apply U.boxA; rfl; rfl) | refine U.call1 rfl rfl (by assumption) rfl ?_ | refine Tri.ret ?_ | fail)
  refine Comes1.ret rfl (retB ?_)
  unfold wideB
  cases maySgB s <;> simp <;> omega
theorem right_p (s : Sg) (a b : Int) : E.Pure Tryz.prog 23 [tNil, encSg s, tInt a, tInt b] (.one (.t (tBool false))) := by
  have h0 : false = true → E.Pure Tryz.prog 22 [encSg s] (.one (.t (tInt 0))) := fun h => by cases h
  refine Pure.of1 Tryz.func23 rfl rfl (Nat.le_of_ble_eq_true rfl) rfl ?_
  rw [encSg_eta] at h0 ⊢
  repeat' (first | refine Tri.seq ?_ | refine Tri.reg ?_ | refine TriL.nil ?_ | (apply U.moveT; rfl; trivial; rfl) | (apply U.assignT; rfl; trivial; rfl) | (apply U.pickb; rfl; trivial; rfl; (first | trivial | exact id | exact And.right | exact gvA | exact gvB | exact And.left | exact gvN | exact gvP2 | exact gvN2 | exact gvLA); rfl; (first | trivial | exact id | exact And.right | exact gvA | exact gvB | exact And.left | exact gvN | exact gvP2 | exact gvN2 | exact gvLA); rfl) | (apply U.boxA; rfl; rfl) | (apply G.moveT; rfl; (first | trivial | exact id | exact And.right | exact gvA | exact gvB | exact And.left | exact gvN | exact gvP2 | exact gvN2 | exact gvLA); rfl; rfl; rfl) | (apply G.bin; rfl; (first | trivial | exact id | exact And.right | exact gvA | exact gvB | exact And.left | exact gvN | exact gvP2 | exact gvN2 | exact gvLA); rfl; (first | trivial | exact id | exact And.right | exact gvA | exact gvB | exact And.left | exact gvN | exact gvP2 | exact gvN2 | exact gvLA); rfl; rfl; rfl; rfl) | (apply G.loadS; rfl; rfl; (first | trivial | exact id | exact And.right | exact gvA | exact gvB | exact And.left | exact gvN | exact gvP2 | exact gvN2 | exact gvLA); rfl; rfl; rfl; rfl; rfl; rfl; rfl) | refine G.call1 rfl rfl (by (first | trivial | exact id | exact And.right | exact gvA | exact gvB | exact And.left | exact gvN | exact gvP2 | exact gvN2 | exact gvLA)) (by first | assumption | exact fun _ => by assumption) rfl rfl rfl ?_ | refine Tri.ret ?_ | (apply U.nePN; rfl; trivial; rfl; trivial; rfl) | fail)
  exact Comes1.ret rfl rfl
theorem flatL_p (HN : LexName) (l : List Ty) (n : Bool) (hl : l.length ≤ 200) (hs : smalls l) :
    E.Pure Tryz.prog 16 [.sl n (encTys l)] (.tup [.t (iT (if mayAll l then rowN l else [])), .t (tBool (mayAll l))]) := by
  have hlen := encTys_length l
  refine Pure.of2 Tryz.func16 rfl rfl (Nat.le_of_ble_eq_true rfl) rfl ?_
  repeat' (first | refine Tri.seq ?_ | refine Tri.reg ?_ | refine TriL.nil ?_ | (apply U.moveT; rfl; trivial; rfl) | (apply U.assignT; rfl; trivial; rfl) | (apply U.len; rfl; trivial; rfl) | refine Tri.block ?_ | fail)
  refine Tri.loopL (α := Nat × List Int) (fun a => match a.2 with
        | [] => ⟨[(9, .t (tInt a.1)), (8, .t (tInt l.length)), (7, .t (.sl n (encTys l))), (4, .t (.sl true []))], Tryz.f16.ntmps, [], 0, 0⟩
        | y :: ys => ⟨[(9, .t (tInt a.1)), (8, .t (tInt l.length)), (7, .t (.sl n (encTys l))), (4, .ref 0 1 0 (ys.length + 1) (ys.length + 1))], Tryz.f16.ntmps, [(0, .row 1 ((y :: ys).map tInt) false)], 0, 1⟩)
      (fun a => a.1 ≤ l.length ∧ rowN l = a.2 ++ rowN (l.drop a.1) ∧ mayAll l = mayAll (l.drop a.1) ∧ a.2.length ≤ 1000 * a.1) (fun a => l.length - a.1) (0, []) ?_ ?_ ?_
  · exact ⟨Nat.zero_le _, rfl, rfl, Nat.zero_le _⟩
  · refine Sub.less (Sub.of rfl rfl ⟨rfl, ?_, rfl, rfl, trivial⟩ trivial)
    rw [← hlen]; rfl
  · rintro ⟨i, _ | ⟨y, ys⟩⟩ ⟨hi, hr, hm, hd⟩
    · dsimp only at hi hr hm hd ⊢
      repeat' (first | refine Tri.seq ?_ | refine Tri.reg ?_ | refine TriL.nil ?_ | (apply U.moveT; rfl; trivial; rfl) | (apply U.assignT; rfl; trivial; rfl) | (apply U.bin; rfl; trivial; rfl; trivial; rfl; rfl) | refine Tri.skip ?_ | refine Tri.block ?_ | refine Tri.exit ?_ | refine Tri.ret ?_ | (refine Tri.cond rfl (fun h => ?_) (fun h => ?_) <;> (try simp at h) <;> (try contradiction)) | fail)
      · have hlt : i < l.length := by omega
        have hget := get_ty hlt
        have hel := smalls_get hs (List.getElem?_eq_getElem hlt)
        have h1 := check_p HN l[i] hel
        have h2 := Flat_p HN l[i] hel
        rw [encTy_eta] at h1 h2
        have hdr := List.drop_eq_getElem_cons hlt
        rw [mayAll_step hlt] at hm
        rw [hdr, rowN] at hr
        cases hmi : mayB l[i] with
        | false =>
          simp only [hmi, Bool.false_and] at h1 hm
          rw [hm]
          repeat' (first | refine Tri.seq ?_ | refine Tri.reg ?_ | refine TriL.nil ?_ | (apply U.assignT; rfl; trivial; rfl) | (apply U.bin; rfl; trivial; rfl; trivial; rfl; rfl) | (apply U.loadES; rfl; rfl; trivial; rfl; rfl; rfl) | (apply U.loadS; rfl; rfl; trivial; rfl; rfl; rfl; rfl; rfl) | (apply U.idx; rfl; trivial; rfl; trivial; exact fun _ => (by omega); exact fun _ => (by assumption); exact fun _ => rfl; rfl) | (apply U.alloc; rfl; rfl; rfl; rfl) | (apply U.storeS; rfl; rfl; rfl; rfl; rfl; rfl; rfl; rfl) | refine U.call1 rfl rfl (by assumption) rfl ?_ | refine Tri.ret ?_ | (refine Tri.cond rfl (fun h => ?_) (fun h => ?_) <;> (try simp at h) <;> (try contradiction)) | fail)
          exact Comes2.trees (.inr rfl) rfl rfl
        | true =>
          simp only [hmi, Bool.true_and, if_true] at h1 h2 hm
          have hfl := len_fl (may_vd hmi).2
          cases hy : flN l[i] with
          | nil =>
            rw [hy] at h2 hr
            repeat' (first | refine Tri.seq ?_ | refine Tri.reg ?_ | refine TriL.nil ?_ | (apply U.moveT; rfl; trivial; rfl) | (apply U.bin; rfl; trivial; rfl; trivial; rfl; rfl) | (apply U.loadES; rfl; rfl; trivial; rfl; rfl; rfl) | (apply U.loadS; rfl; rfl; trivial; rfl; rfl; rfl; rfl; rfl) | (apply U.idx; rfl; trivial; rfl; trivial; exact fun _ => (by omega); exact fun _ => (by assumption); exact fun _ => rfl; rfl) | (apply U.alloc; rfl; rfl; rfl; rfl) | (apply U.storeS; rfl; rfl; rfl; rfl; rfl; rfl; rfl; rfl) | refine U.call1 rfl rfl (by assumption) rfl ?_ | refine Tri.skip ?_ | (refine Tri.cond rfl (fun h => ?_) (fun h => ?_) <;> (try simp at h) <;> (try contradiction)) | fail)
            refine U.appNil0 rfl (SrcE.t (n := true) rfl rfl) rfl ?_
            repeat' (first | refine Tri.reg ?_ | refine TriL.nil ?_ | (apply U.moveT; rfl; trivial; rfl) | (apply U.assignT; rfl; trivial; rfl) | (apply U.add; rfl; trivial; rfl; trivial; exact fun _ => wrap_i64 (by omega) (by omega); rfl) | fail)
            exact ⟨(i + 1, []), ⟨hlt, hr, hm, Nat.zero_le _⟩, by dsimp only; omega, Sub.less (Sub.ofn (by decide) rfl ⟨rfl, rfl, rfl, rfl, trivial⟩ trivial rfl rfl)⟩
          | cons z zs =>
            rw [hy] at h2 hr hfl
            repeat' (first | refine Tri.seq ?_ | refine Tri.reg ?_ | refine TriL.nil ?_ | (apply U.moveT; rfl; trivial; rfl) | (apply U.bin; rfl; trivial; rfl; trivial; rfl; rfl) | (apply U.loadES; rfl; rfl; trivial; rfl; rfl; rfl) | (apply U.loadS; rfl; rfl; trivial; rfl; rfl; rfl; rfl; rfl) | (apply U.idx; rfl; trivial; rfl; trivial; exact fun _ => (by omega); exact fun _ => (by assumption); exact fun _ => rfl; rfl) | (apply U.alloc; rfl; rfl; rfl; rfl) | (apply U.storeS; rfl; rfl; rfl; rfl; rfl; rfl; rfl; rfl) | refine U.call1 rfl rfl (by assumption) rfl ?_ | refine Tri.skip ?_ | (refine Tri.cond rfl (fun h => ?_) (fun h => ?_) <;> (try simp at h) <;> (try contradiction)) | fail)
            refine U.appNil rfl (SrcE.t (n := false) rfl (leaves_int (z :: zs))) (by simp) (by simp at hfl ⊢; omega) (by simp at hfl ⊢; omega) rfl ?_
            repeat' (first | refine Tri.reg ?_ | refine TriL.nil ?_ | (apply U.moveT; rfl; trivial; rfl) | (apply U.assignR; rfl; trivial; rfl) | (apply U.add; rfl; trivial; rfl; trivial; exact fun _ => wrap_i64 (by omega) (by omega); rfl) | fail)
            refine ⟨(i + 1, z :: zs), ⟨hlt, hr, hm, by dsimp only; omega⟩, by dsimp only; omega, Less.ren (fun b => if b = 0 then 1 else b) rfl rfl ⟨rfl, rfl, rfl, ?_, trivial⟩ ⟨rfl, trivial⟩ rfl rfl rfl⟩
            refine congrArg some ?_
            show PV.ref 1 1 0 _ _ = PV.ref 1 1 0 _ _
            simp
      · have : i = l.length := by omega
        subst this
        rw [List.drop_length, mayAll] at hm
        rw [List.drop_length, rowN] at hr
        rw [hm, hr]
        exact Comes2.trees (.inr rfl) rfl rfl
    · dsimp only at hi hr hm hd ⊢
      repeat' (first | refine Tri.seq ?_ | refine Tri.reg ?_ | refine TriL.nil ?_ | (apply U.assignT; rfl; trivial; rfl) | (apply U.moveR; rfl; trivial; rfl) | (apply U.assignR; rfl; trivial; rfl) | (apply U.bin; rfl; trivial; rfl; trivial; rfl; rfl) | refine Tri.skip ?_ | refine Tri.block ?_ | refine Tri.exit ?_ | refine Tri.ret ?_ | (refine Tri.cond rfl (fun h => ?_) (fun h => ?_) <;> (try simp at h) <;> (try contradiction)) | fail)
      · have hlt : i < l.length := by omega
        have hget := get_ty hlt
        have hel := smalls_get hs (List.getElem?_eq_getElem hlt)
        have h1 := check_p HN l[i] hel
        have h2 := Flat_p HN l[i] hel
        rw [encTy_eta] at h1 h2
        have hdr := List.drop_eq_getElem_cons hlt
        rw [mayAll_step hlt] at hm
        rw [hdr, rowN] at hr
        cases hmi : mayB l[i] with
        | false =>
          simp only [hmi, Bool.false_and] at h1 hm
          rw [hm]
          repeat' (first | refine Tri.seq ?_ | refine Tri.reg ?_ | refine TriL.nil ?_ | (apply U.assignT; rfl; trivial; rfl) | (apply U.bin; rfl; trivial; rfl; trivial; rfl; rfl) | (apply U.loadES; rfl; rfl; trivial; rfl; rfl; rfl) | (apply U.loadS; rfl; rfl; trivial; rfl; rfl; rfl; rfl; rfl) | (apply U.idx; rfl; trivial; rfl; trivial; exact fun _ => (by omega); exact fun _ => (by assumption); exact fun _ => rfl; rfl) | (apply U.alloc; rfl; rfl; rfl; rfl) | (apply U.storeS; rfl; rfl; rfl; rfl; rfl; rfl; rfl; rfl) | refine U.call1 rfl rfl (by assumption) rfl ?_ | refine Tri.ret ?_ | (refine Tri.cond rfl (fun h => ?_) (fun h => ?_) <;> (try simp at h) <;> (try contradiction)) | fail)
          exact Comes2.trees (.inr rfl) rfl rfl
        | true =>
          simp only [hmi, Bool.true_and, if_true] at h1 h2 hm
          have hfl := len_fl (may_vd hmi).2
          simp only [List.length_cons] at hd
          repeat' (first | refine Tri.seq ?_ | refine Tri.reg ?_ | refine TriL.nil ?_ | (apply U.moveR; rfl; trivial; rfl) | (apply U.bin; rfl; trivial; rfl; trivial; rfl; rfl) | (apply U.loadES; rfl; rfl; trivial; rfl; rfl; rfl) | (apply U.loadS; rfl; rfl; trivial; rfl; rfl; rfl; rfl; rfl) | (apply U.idx; rfl; trivial; rfl; trivial; exact fun _ => (by omega); exact fun _ => (by assumption); exact fun _ => rfl; rfl) | (apply U.alloc; rfl; rfl; rfl; rfl) | (apply U.storeS; rfl; rfl; rfl; rfl; rfl; rfl; rfl; rfl) | refine U.call1 rfl rfl (by assumption) rfl ?_ | refine Tri.skip ?_ | (refine Tri.cond rfl (fun h => ?_) (fun h => ?_) <;> (try simp at h) <;> (try contradiction)) | fail)
          refine U.appOwn rfl rfl (by simp) (by simp) (SrcE.t rfl (leaves_int _)) (by simp; omega) (by simp; omega) rfl ?_
          repeat' (first | refine Tri.reg ?_ | refine TriL.nil ?_ | (apply U.moveT; rfl; trivial; rfl) | (apply U.assignR; rfl; trivial; rfl) | (apply U.add; rfl; trivial; rfl; trivial; exact fun _ => wrap_i64 (by omega) (by omega); rfl) | fail)
          refine ⟨(i + 1, y :: (ys ++ flN l[i])), ⟨hlt, by rw [hr]; simp, hm, by simp; omega⟩, by dsimp only; omega, Less.ren (fun b => if b = 0 then 2 else b) rfl rfl ⟨rfl, rfl, rfl, ?_, trivial⟩ ⟨?_, trivial⟩ rfl rfl rfl⟩
          · refine congrArg some ?_
            show PV.ref 2 1 0 _ _ = PV.ref 2 1 0 _ _
            simp; omega
          · refine congrArg some ?_
            show Blk.row 1 _ false = Blk.row 1 _ false
            simp
      · have : i = l.length := by omega
        subst this
        rw [List.drop_length, mayAll] at hm
        rw [List.drop_length, rowN, List.append_nil] at hr
        rw [hm, hr]
        refine Comes2.froz (.inr rfl) rfl rfl (by simp) ?_ rfl
        simp only [iT, List.length_map, if_true]
        rw [List.take_of_length_le (by simp)]
        rfl
end Go.Proofs.YtldelbknkkeniaaGreatDoor
