/- Layer 13, the code: flat. -/
import Derived.Test.YtaplmmhkpljmkaaDoorC16
namespace Go.Proofs.YtaplmmhkpljmkaaDoor
open Go E
set_option maxRecDepth 100000
set_option maxHeartbeats 4000000
set_option linter.unusedVariables false
set_option linter.unusedSimpArgs false
attribute [local irreducible] Tri TriL TriO PO VO E.Pure DOb
theorem leaves_int (l : List Int) : ((l.map tInt).all fun x => x.leaves.length == 1) = true := by simp [tInt, T.leaves]
theorem joinsN_ge : ∀ (m : List Int) (l : List Ty), m.length ≤ (joinsN m l).length
  | m, [] => Nat.le_refl _
  | m, t :: ts => by have h := joinsN_ge (zipJ m (flN t)) ts; rw [zipJ_len] at h; rw [joinsN]; omega
theorem iT_ne {l : List Int} (h : l ≠ []) : iT l = .sl false (l.map tInt) := by cases l with | nil => exact absurd rfl h | cons a l => rfl
theorem flat_core (t x : Ty) (hpl : E.Pure Tryd.prog 10 [encTy t] (.one (.t (encTy x)))) (h14 : x.kind ≠ 14 ∧ x.kind ≠ 16 ∧ x.kind ≠ 17 ∧ x.kind ≠ 18) (hl : x.l.length ≤ 65)
    (hel : ∀ (i : Nat) (h : i < x.l.length), E.Pure Tryd.prog 39 [agTy x.l[i]] (.one (.t (iT (flN x.l[i]))))) (hfl : ∀ y ∈ x.l, (flN y).length ≤ 1000) (hrow : (rowN x.l).length ≤ 1000) (hjs : (joinsN [] x.l).length ≤ 1000) :
    E.Pure Tryd.prog 39 [encTy t] (.one (.t (iT (flK x.kind (rowN x.l) (joinsN [] x.l))))) := by
  have hlen := encTys_length x.l
  refine Pure.of1 Tryd.func39 rfl rfl (Nat.le_of_ble_eq_true rfl) rfl ?_
  rw [encTy_eta x] at hpl
  rw [encTy_eta t] at hpl ⊢
  repeat' (first | refine Tri.seq ?_ | refine Tri.reg ?_ | refine TriL.nil ?_ | (apply U.moveT; rfl; trivial; rfl) | (apply U.assignT; rfl; trivial; rfl) | (apply U.load; rfl; rfl; trivial; rfl; rfl; rfl) | (apply U.fld; rfl; trivial; rfl; infer_instance; decide; rfl) | (apply U.bin; rfl; trivial; rfl; trivial; rfl; rfl) | (apply U.len; rfl; trivial; rfl) | (apply U.loadS; rfl; rfl; trivial; rfl; rfl; rfl; rfl; rfl) | (apply U.boxA; rfl; rfl) | (apply U.storeS; rfl; rfl; rfl; rfl; rfl; rfl; rfl; rfl) | refine U.call1 rfl rfl (by assumption) rfl ?_ | refine Tri.skip ?_ | refine Tri.block ?_ | refine Tri.ret ?_ | (refine Tri.cond rfl (fun h => ?_) (fun h => ?_) <;> (try simp at h) <;> (try contradiction)) | fail)
  · refine Comes1.ret rfl ?_
    rw [show x.kind = 0 by assumption]; rfl
  · (apply U.litT; rfl; rfl; rfl; rfl; rfl; rfl; rfl; rfl)
    repeat' (first | refine TriL.nil ?_ | (apply U.assignT; rfl; trivial; rfl) | refine Tri.ret ?_ | fail)
    refine Comes1.ret rfl ?_
    rw [show x.kind = 8 by assumption]; rfl
  · (apply U.litT; rfl; rfl; rfl; rfl; rfl; rfl; rfl; rfl)
    repeat' (first | refine TriL.nil ?_ | (apply U.assignT; rfl; trivial; rfl) | refine Tri.ret ?_ | fail)
    refine Comes1.ret rfl ?_
    rw [show x.kind = 9 by assumption]; rfl
  · (apply U.litT; rfl; rfl; rfl; rfl; rfl; rfl; rfl; rfl)
    repeat' (first | refine TriL.nil ?_ | (apply U.assignT; rfl; trivial; rfl) | refine Tri.ret ?_ | fail)
    refine Comes1.ret rfl ?_
    rw [show x.kind = 11 by assumption]; rfl
  · (apply U.litT; rfl; rfl; rfl; rfl; rfl; rfl; rfl; rfl)
    repeat' (first | refine TriL.nil ?_ | (apply U.assignT; rfl; trivial; rfl) | refine Tri.ret ?_ | fail)
    refine Comes1.ret rfl ?_
    rw [show x.kind = 12 by assumption]; rfl
  · -- a record
    refine Tri.loopL (α := Nat × List Int) (fun a => match a.2 with
        | [] => ⟨[(30, .t (tInt a.1)), (29, .t (tInt x.l.length)), (28, .t (.sl x.nl (encTys x.l))), (3, .t (.sl true []))], Tryd.f39.ntmps, [], 0, 1⟩
        | y :: ys => ⟨[(30, .t (tInt a.1)), (29, .t (tInt x.l.length)), (28, .t (.sl x.nl (encTys x.l))), (3, .ref 0 1 0 (ys.length + 1) (ys.length + 1))], Tryd.f39.ntmps, [(0, .row 1 ((y :: ys).map tInt) false)], 0, 1⟩)
      (fun a => a.1 ≤ x.l.length ∧ rowN x.l = a.2 ++ rowN (x.l.drop a.1)) (fun a => x.l.length - a.1) (0, []) ?_ ?_ ?_
    · exact ⟨Nat.zero_le _, rfl⟩
    · refine Sub.less (Sub.of rfl rfl ⟨rfl, ?_, rfl, rfl, trivial⟩ trivial)
      rw [← hlen]; rfl
    · rintro ⟨i, _ | ⟨y, ys⟩⟩ ⟨hi, hr⟩
      · dsimp only at hi hr ⊢
        repeat' (first | refine Tri.seq ?_ | refine Tri.reg ?_ | refine TriL.nil ?_ | (apply U.moveT; rfl; trivial; rfl) | (apply U.assignT; rfl; trivial; rfl) | (apply U.bin; rfl; trivial; rfl; trivial; rfl; rfl) | refine Tri.skip ?_ | refine Tri.block ?_ | refine Tri.exit ?_ | refine Tri.ret ?_ | (refine Tri.cond rfl (fun h => ?_) (fun h => ?_) <;> (try simp at h) <;> (try contradiction)) | fail)
        · have hlt : i < x.l.length := by omega
          have hget := get_ty hlt
          have hel := hel i hlt
          have hd := List.drop_eq_getElem_cons hlt
          have hfl := hfl _ (List.getElem_mem hlt)
          rw [hd, rowN] at hr
          cases hy : flN x.l[i] with
          | nil =>
            rw [hy] at hel hr
            repeat' (first | refine Tri.reg ?_ | refine TriL.nil ?_ | (apply U.moveT; rfl; trivial; rfl) | (apply U.loadES; rfl; rfl; trivial; rfl; rfl; rfl) | (apply U.loadS; rfl; rfl; trivial; rfl; rfl; rfl; rfl; rfl) | (apply U.idx; rfl; trivial; rfl; trivial; exact fun _ => (by omega); exact fun _ => (by assumption); exact fun _ => rfl; rfl) | (apply U.alloc; rfl; rfl; rfl; rfl) | (apply U.storeS; rfl; rfl; rfl; rfl; rfl; rfl; rfl; rfl) | refine U.call1 rfl rfl (by assumption) rfl ?_ | fail)
            refine U.appNil0 rfl (SrcE.t (n := true) rfl rfl) rfl ?_
            repeat' (first | refine Tri.reg ?_ | refine TriL.nil ?_ | (apply U.moveT; rfl; trivial; rfl) | (apply U.assignT; rfl; trivial; rfl) | (apply U.add; rfl; trivial; rfl; trivial; exact fun _ => wrap_i64 (by omega) (by omega); rfl) | fail)
            exact ⟨(i + 1, []), ⟨hlt, hr⟩, by dsimp only; omega, Sub.less (Sub.ofn (by decide) rfl ⟨rfl, rfl, rfl, rfl, trivial⟩ trivial rfl rfl)⟩
          | cons z zs =>
            rw [hy] at hel hr hfl
            repeat' (first | refine Tri.reg ?_ | refine TriL.nil ?_ | (apply U.moveT; rfl; trivial; rfl) | (apply U.loadES; rfl; rfl; trivial; rfl; rfl; rfl) | (apply U.loadS; rfl; rfl; trivial; rfl; rfl; rfl; rfl; rfl) | (apply U.idx; rfl; trivial; rfl; trivial; exact fun _ => (by omega); exact fun _ => (by assumption); exact fun _ => rfl; rfl) | (apply U.alloc; rfl; rfl; rfl; rfl) | (apply U.storeS; rfl; rfl; rfl; rfl; rfl; rfl; rfl; rfl) | refine U.call1 rfl rfl (by assumption) rfl ?_ | fail)
            refine U.appNil rfl (SrcE.t (n := false) rfl (leaves_int (z :: zs))) (by simp) (by simp at hfl ⊢; omega) (by simp at hfl ⊢; omega) rfl ?_
            repeat' (first | refine Tri.reg ?_ | refine TriL.nil ?_ | (apply U.moveT; rfl; trivial; rfl) | (apply U.assignR; rfl; trivial; rfl) | (apply U.add; rfl; trivial; rfl; trivial; exact fun _ => wrap_i64 (by omega) (by omega); rfl) | fail)
            refine ⟨(i + 1, z :: zs), ⟨hlt, hr⟩, by dsimp only; omega, Less.ren (fun b => if b = 0 then 2 else b) rfl rfl ⟨rfl, rfl, rfl, ?_, trivial⟩ ⟨rfl, trivial⟩ rfl rfl rfl⟩
            refine congrArg some ?_
            show PV.ref 2 1 0 _ _ = PV.ref 2 1 0 _ _
            simp
        · refine Comes1.ret rfl ?_
          have : i = x.l.length := by omega
          subst this
          rw [List.drop_length, rowN] at hr
          rw [show x.kind = 13 by assumption, hr]; rfl
      · dsimp only at hi hr ⊢
        repeat' (first | refine Tri.seq ?_ | refine Tri.reg ?_ | refine TriL.nil ?_ | (apply U.moveR; rfl; trivial; rfl) | (apply U.assignR; rfl; trivial; rfl) | (apply U.bin; rfl; trivial; rfl; trivial; rfl; rfl) | refine Tri.skip ?_ | refine Tri.block ?_ | refine Tri.exit ?_ | refine Tri.ret ?_ | (refine Tri.cond rfl (fun h => ?_) (fun h => ?_) <;> (try simp at h) <;> (try contradiction)) | fail)
        · have hlt : i < x.l.length := by omega
          have hget := get_ty hlt
          have hel := hel i hlt
          have hd := List.drop_eq_getElem_cons hlt
          have hfl := hfl _ (List.getElem_mem hlt)
          rw [hd, rowN] at hr
          have hbd := congrArg List.length hr
          simp only [List.length_append, List.length_cons] at hbd
          repeat' (first | refine Tri.reg ?_ | refine TriL.nil ?_ | (apply U.moveR; rfl; trivial; rfl) | (apply U.loadES; rfl; rfl; trivial; rfl; rfl; rfl) | (apply U.loadS; rfl; rfl; trivial; rfl; rfl; rfl; rfl; rfl) | (apply U.idx; rfl; trivial; rfl; trivial; exact fun _ => (by omega); exact fun _ => (by assumption); exact fun _ => rfl; rfl) | (apply U.alloc; rfl; rfl; rfl; rfl) | (apply U.storeS; rfl; rfl; rfl; rfl; rfl; rfl; rfl; rfl) | refine U.call1 rfl rfl (by assumption) rfl ?_ | fail)
          refine U.appOwn rfl rfl (by simp) (by simp) (SrcE.t rfl (leaves_int _)) (by simp; omega) (by simp; omega) rfl ?_
          repeat' (first | refine Tri.reg ?_ | refine TriL.nil ?_ | (apply U.moveT; rfl; trivial; rfl) | (apply U.assignR; rfl; trivial; rfl) | (apply U.add; rfl; trivial; rfl; trivial; exact fun _ => wrap_i64 (by omega) (by omega); rfl) | fail)
          refine ⟨(i + 1, y :: (ys ++ flN x.l[i])), ⟨hlt, by rw [hr]; simp⟩, by dsimp only; omega, Less.ren (fun b => if b = 0 then 2 else b) rfl rfl ⟨rfl, rfl, rfl, ?_, trivial⟩ ⟨?_, trivial⟩ rfl rfl rfl⟩
          · refine congrArg some ?_
            show PV.ref 2 1 0 _ _ = PV.ref 2 1 0 _ _
            simp; omega
          · refine congrArg some ?_
            show Blk.row 1 _ false = Blk.row 1 _ false
            simp
        · refine Comes1.retF rfl rfl (by simp) ?_
          have : i = x.l.length := by omega
          subst this
          rw [List.drop_length, rowN] at hr
          rw [show x.kind = 13 by assumption, hr]
          simp [flK, iT]
          exact List.take_of_length_le (by simp)
  · -- a variant
    (apply U.lit; rfl; rfl; rfl; rfl; rfl; rfl; rfl; rfl)
    repeat' (first | refine Tri.seq ?_ | refine Tri.reg ?_ | refine TriL.nil ?_ | (apply U.moveT; rfl; trivial; rfl) | (apply U.assignR; rfl; trivial; rfl) | (apply U.load; rfl; rfl; trivial; rfl; rfl; rfl) | (apply U.fld; rfl; trivial; rfl; infer_instance; decide; rfl) | (apply U.len; rfl; trivial; rfl) | refine Tri.block ?_ | fail)
    refine Tri.loopL (α := Nat × List Int) (fun a => ⟨[(46, .t (tInt a.1)), (45, .t (tInt x.l.length)), (44, .t (.sl x.nl (encTys x.l))), (6, .ref 0 1 0 (a.2.length + 1) (a.2.length + 1))], Tryd.f39.ntmps, [(0, .row 1 ((127 :: a.2).map tInt) false)], 0, 1⟩)
      (fun a => a.1 ≤ x.l.length ∧ joinsN [] x.l = joinsN a.2 (x.l.drop a.1)) (fun a => x.l.length - a.1) (0, []) ?_ ?_ ?_
    · exact ⟨Nat.zero_le _, rfl⟩
    · refine Less.ren (fun b => if b = 0 then 1 else b) rfl rfl ⟨rfl, ?_, rfl, rfl, trivial⟩ ⟨rfl, trivial⟩ rfl rfl rfl
      rw [← hlen]; rfl
    · rintro ⟨i, m⟩ ⟨hi, hr⟩
      dsimp only at hi hr ⊢
      repeat' (first | refine Tri.seq ?_ | refine Tri.reg ?_ | refine TriL.nil ?_ | (apply U.moveR; rfl; trivial; rfl) | (apply U.assignR; rfl; trivial; rfl) | (apply U.bin; rfl; trivial; rfl; trivial; rfl; rfl) | refine Tri.skip ?_ | refine Tri.block ?_ | refine Tri.exit ?_ | refine Tri.ret ?_ | (refine Tri.cond rfl (fun h => ?_) (fun h => ?_) <;> (try simp at h) <;> (try contradiction)) | fail)
      · have hlt : i < x.l.length := by omega
        have hget := get_ty hlt
        have hel := hel i hlt
        have hd := List.drop_eq_getElem_cons hlt
        have hfl := hfl _ (List.getElem_mem hlt)
        rw [hd, joinsN] at hr
        generalize hys : flN x.l[i] = ys at *
        have hm := joinsN_ge (zipJ m ys) (x.l.drop (i + 1))
        rw [← hr] at hm
        have hz := zipJ_len m ys
        have hlen3 : (ys.map tInt).length = ys.length := by simp
        repeat' (first | refine Tri.seq ?_ | refine Tri.reg ?_ | refine TriL.nil ?_ | (apply U.moveT; rfl; trivial; rfl) | (apply U.len; rfl; trivial; rfl) | (apply U.loadES; rfl; rfl; trivial; rfl; rfl; rfl) | (apply U.loadS; rfl; rfl; trivial; rfl; rfl; rfl; rfl; rfl) | (apply U.idx; rfl; trivial; rfl; trivial; exact fun _ => (by omega); exact fun _ => (by assumption); exact fun _ => rfl; rfl) | (apply U.alloc; rfl; rfl; rfl; rfl) | (apply U.storeS; rfl; rfl; rfl; rfl; rfl; rfl; rfl; rfl) | refine U.call1 rfl rfl (by assumption) rfl ?_ | refine Tri.block ?_ | fail)
        refine Tri.loopL (α := Nat × List Int × List Int) (fun a => ⟨[(53, .t (tInt a.1)), (52, .t (tInt ys.length)), (51, .t (iT ys)), (46, .t (tInt i)), (45, .t (tInt x.l.length)), (44, .t (.sl x.nl (encTys x.l))), (6, .ref 0 1 0 (a.2.1.length + a.2.2.length + 1) (a.2.1.length + a.2.2.length + 1))], Tryd.f39.ntmps, [(0, .row 1 ((127 :: (a.2.1 ++ a.2.2)).map tInt) false)], 0, 1⟩)
          (fun a => a.1 ≤ ys.length ∧ a.2.1.length = a.1 ∧ zipJ m ys = a.2.1 ++ zipJ a.2.2 (ys.drop a.1)) (fun a => ys.length - a.1) (0, [], m) ?_ ?_ ?_
        · exact ⟨Nat.zero_le _, rfl, rfl⟩
        · refine Sub.less (Sub.ofn (by decide) rfl ⟨rfl, ?_, rfl, rfl, rfl, rfl, ?_, trivial⟩ ⟨rfl, trivial⟩ rfl rfl)
          · rw [← hlen3]; rfl
          · refine congrArg some ?_
            show PV.ref 0 1 0 _ _ = PV.ref 0 1 0 _ _
            simp
        · rintro ⟨j, pre, rest⟩ ⟨hj, hpl, hq⟩
          dsimp only at hj hpl hq ⊢
          have hql := congrArg List.length hq
          rw [List.length_append, zipJ_len] at hql
          have hout : ∀ rs : List Int, ys.length ≤ j → zipJ m ys = pre ++ zipJ rs (ys.drop j) → zipJ m ys = pre ++ rs := fun rs h1 h2 => by
            rw [List.drop_eq_nil_of_le (by omega), zipJ_nil] at h2; exact h2
          rcases rest with _ | ⟨r, rest⟩
          · repeat' (first | refine Tri.seq ?_ | refine Tri.reg ?_ | refine TriL.nil ?_ | (apply U.moveT; rfl; trivial; rfl) | (apply U.add; rfl; trivial; rfl; trivial; exact fun _ => wrap_i64 (by omega) (by omega); rfl) | (apply U.bin; rfl; trivial; rfl; trivial; rfl; rfl) | refine Tri.skip ?_ | refine Tri.block ?_ | refine Tri.exit ?_ | (refine Tri.cond rfl (fun h => ?_) (fun h => ?_) <;> (try simp at h) <;> (try contradiction)) | fail)
            · have hjl : j < ys.length := by omega
              have hgi : (ys.map tInt)[((j : Nat) : Int).toNat]? = some (tInt ys[j]) := by simp [hjl]
              have hdj := List.drop_eq_getElem_cons hjl
              repeat' (first | refine Tri.seq ?_ | refine Tri.reg ?_ | refine TriL.nil ?_ | (apply U.moveT; rfl; trivial; rfl) | (apply U.assignT; rfl; trivial; rfl) | (apply U.moveR; rfl; trivial; rfl) | (apply U.add; rfl; trivial; rfl; trivial; exact fun _ => wrap_i64 (by omega) (by omega); rfl) | (apply U.bin; rfl; trivial; rfl; trivial; rfl; rfl) | (apply U.lenR; rfl; trivial; rfl) | (apply U.loadE; rfl; rfl; trivial; rfl; rfl) | (apply U.idx; rfl; trivial; rfl; trivial; exact fun _ => (by omega); exact fun _ => (by assumption); exact fun _ => rfl; rfl) | (apply U.idxR; rfl; trivial; rfl; trivial; exact fun _ => (by omega); exact fun _ => (by omega); rfl) | (refine Tri.cond rfl (fun h => ?_) (fun h => ?_) <;> (try simp at h) <;> (try contradiction)) | fail)
              · exfalso; omega
              · (apply U.litT; rfl; rfl; rfl; rfl; rfl; rfl; rfl; rfl)
                skip
                refine U.appOwn rfl rfl (by simp) (by simp) (SrcE.t rfl (leaves_int [ys[j]])) (by simp; omega) (by simp; omega) rfl ?_
                repeat' (first | refine Tri.reg ?_ | refine TriL.nil ?_ | (apply U.moveT; rfl; trivial; rfl) | (apply U.assignR; rfl; trivial; rfl) | (apply U.add; rfl; trivial; rfl; trivial; exact fun _ => wrap_i64 (by omega) (by omega); rfl) | fail)
                refine ⟨(j + 1, pre ++ [ys[j]], []), ⟨hjl, by simp [hpl], by rw [hq, hdj]; simp [zipJ]⟩, by dsimp only; omega, Less.ren (fun b => if b = 0 then 1 else b) rfl rfl ⟨rfl, rfl, rfl, rfl, rfl, rfl, ?_, trivial⟩ ⟨?_, trivial⟩ rfl rfl rfl⟩
                · refine congrArg some ?_
                  show PV.ref 1 1 0 _ _ = PV.ref 1 1 0 _ _
                  simp
                · refine congrArg some ?_
                  show Blk.row 1 _ false = Blk.row 1 _ false
                  simp
            · refine ⟨(i + 1, pre), ⟨hlt, ?_⟩, by dsimp only; omega, Sub.less (Sub.of rfl rfl ⟨rfl, rfl, rfl, rfl, trivial⟩ ⟨?_, trivial⟩)⟩
              · rw [hr, hout [] (by omega) hq, List.append_nil]
              · refine congrArg some ?_
                show Blk.row 1 _ false = Blk.row 1 _ false
                simp
          · repeat' (first | refine Tri.seq ?_ | refine Tri.reg ?_ | refine TriL.nil ?_ | (apply U.moveT; rfl; trivial; rfl) | (apply U.add; rfl; trivial; rfl; trivial; exact fun _ => wrap_i64 (by omega) (by omega); rfl) | (apply U.bin; rfl; trivial; rfl; trivial; rfl; rfl) | refine Tri.skip ?_ | refine Tri.block ?_ | refine Tri.exit ?_ | (refine Tri.cond rfl (fun h => ?_) (fun h => ?_) <;> (try simp at h) <;> (try contradiction)) | fail)
            · have hjl : j < ys.length := by omega
              have hgi : (ys.map tInt)[((j : Nat) : Int).toNat]? = some (tInt ys[j]) := by simp [hjl]
              have hdj := List.drop_eq_getElem_cons hjl
              have hjoin := join_p r ys[j]
              have hrl : (r :: rest).length = rest.length + 1 := rfl
              have he : 0 + ((j : Int) + 1).toNat = j + 1 := by omega
              have hrow : ((127 :: (pre ++ r :: rest)).map tInt)[0 + ((j : Int) + 1).toNat]? = some (tInt r) := by
                rw [he]; simp [List.getElem?_append_right, hpl]
              repeat' (first | refine Tri.seq ?_ | refine Tri.reg ?_ | refine TriL.nil ?_ | (apply U.moveT; rfl; trivial; rfl) | (apply U.assignT; rfl; trivial; rfl) | (apply U.moveR; rfl; trivial; rfl) | (apply U.add; rfl; trivial; rfl; trivial; exact fun _ => wrap_i64 (by omega) (by omega); rfl) | (apply U.bin; rfl; trivial; rfl; trivial; rfl; rfl) | (apply U.lenR; rfl; trivial; rfl) | (apply U.loadE; rfl; rfl; trivial; rfl; rfl) | (apply U.idx; rfl; trivial; rfl; trivial; exact fun _ => (by omega); exact fun _ => (by assumption); exact fun _ => rfl; rfl) | (apply U.idxR; rfl; trivial; rfl; trivial; exact fun _ => (by omega); exact fun _ => (by omega); rfl) | (refine Tri.cond rfl (fun h => ?_) (fun h => ?_) <;> (try simp at h) <;> (try contradiction)) | fail)
              · refine U.loadR rfl rfl trivial rfl hrow rfl rfl ?_
                repeat' (first | (apply U.moveT; rfl; trivial; rfl) | refine U.call2 rfl rfl rfl (by assumption) rfl ?_ | (apply U.idxR; rfl; trivial; rfl; trivial; exact fun _ => (by omega); exact fun _ => (by omega); rfl) | fail)
                refine U.storeR rfl rfl rfl rfl rfl (by rw [he]; simp; omega) ?_
                repeat' (first | refine Tri.reg ?_ | refine TriL.nil ?_ | (apply U.moveT; rfl; trivial; rfl) | (apply U.add; rfl; trivial; rfl; trivial; exact fun _ => wrap_i64 (by omega) (by omega); rfl) | fail)
                refine ⟨(j + 1, pre ++ [joinN r ys[j]], rest), ⟨hjl, by simp [hpl], by rw [hq, hdj]; simp [zipJ]⟩, by dsimp only; omega, Sub.less (Sub.of rfl rfl ⟨rfl, rfl, rfl, rfl, rfl, rfl, ?_, trivial⟩ ⟨?_, trivial⟩)⟩
                · refine congrArg some ?_
                  show PV.ref 0 1 0 _ _ = PV.ref 0 1 0 _ _
                  simp; omega
                · refine congrArg some ?_
                  show Blk.row 1 _ false = Blk.row 1 _ false
                  rw [he]
                  simp [List.set_append_right, hpl]
              · exfalso; simp at *; omega
            · refine ⟨(i + 1, pre ++ r :: rest), ⟨hlt, ?_⟩, by dsimp only; omega, Sub.less (Sub.of rfl rfl ⟨rfl, rfl, rfl, ?_, trivial⟩ ⟨rfl, trivial⟩)⟩
              · rw [hr, hout (r :: rest) (by omega) hq]
              · refine congrArg some ?_
                show PV.ref 0 1 0 _ _ = PV.ref 0 1 0 _ _
                simp
      · refine Comes1.retF rfl rfl (by simp) ?_
        have : i = x.l.length := by omega
        subst this
        rw [List.drop_length, joinsN] at hr
        rw [show x.kind = 15 by assumption, hr]
        simp [flK, iT]
        exact List.take_of_length_le (by simp)
  · (apply U.litT; rfl; rfl; rfl; rfl; rfl; rfl; rfl; rfl)
    repeat' (first | refine TriL.nil ?_ | (apply U.assignT; rfl; trivial; rfl) | refine Tri.ret ?_ | fail)
    refine Comes1.ret rfl ?_
    rw [flK, if_neg (by omega), if_neg (by omega), if_neg (by omega), if_neg (by omega), if_neg (by omega)]; rfl
end Go.Proofs.YtaplmmhkpljmkaaDoor
