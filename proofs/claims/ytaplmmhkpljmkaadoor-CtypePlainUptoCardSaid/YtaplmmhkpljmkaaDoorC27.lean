/- Layer 13: the reference's Row, Cores. -/
import Derived.Test.YtaplmmhkpljmkaaDoorC26
namespace Go.Proofs.YtaplmmhkpljmkaaDoor
open Go E
set_option maxRecDepth 100000
set_option maxHeartbeats 4000000
set_option linter.unusedVariables false
set_option linter.unusedSimpArgs false
attribute [local irreducible] Tri TriL TriO PO VO E.Pure DOb
theorem row_core (l : List Ty) (n : Bool) (hb : l.length ≤ big) (hel : ∀ (i : Nat) (h : i < l.length), E.Pure Tryd.prog 14 [agTy l[i]] (.one (.t (iT (flN l[i]))))) (hrow : (rowN l).length ≤ 1000000) :
    E.Pure Tryd.prog 29 [.sl n (encTys l)] (.one (.t (iT (rowN l)))) := by
  unfold big at hb
  have hlen := encTys_length l
  refine Pure.of1 Tryd.func29 rfl rfl (Nat.le_of_ble_eq_true rfl) rfl ?_
  repeat' (first | refine Tri.seq ?_ | refine Tri.reg ?_ | refine TriL.nil ?_ | (apply U.assignT; rfl; trivial; rfl) | refine Tri.block ?_ | fail)
  refine Tri.loopL (α := Nat × List Int) (fun a => match a.2 with
        | [] => ⟨[(4, .t (tInt a.1)), (3, .t (.sl true [])), (0, .t (.sl n (encTys l)))], Tryd.f29.ntmps, [], 0, 0⟩
        | y :: ys => ⟨[(4, .t (tInt a.1)), (3, .ref 0 1 0 (ys.length + 1) (ys.length + 1)), (0, .t (.sl n (encTys l)))], Tryd.f29.ntmps, [(0, .row 1 ((y :: ys).map tInt) false)], 0, 1⟩)
      (fun a => a.1 ≤ l.length ∧ rowN l = a.2 ++ rowN (l.drop a.1)) (fun a => l.length - a.1) (0, []) ?_ ?_ ?_
  · exact ⟨Nat.zero_le _, rfl⟩
  · exact Sub.less (Sub.of rfl rfl ⟨rfl, rfl, rfl, trivial⟩ trivial)
  · rintro ⟨i, _ | ⟨y, ys⟩⟩ ⟨hi, hr⟩
    · dsimp only at hi hr ⊢
      repeat' (first | refine Tri.seq ?_ | refine Tri.reg ?_ | refine TriL.nil ?_ | (apply U.moveT; rfl; trivial; rfl) | (apply U.assignT; rfl; trivial; rfl) | (apply U.bin; rfl; trivial; rfl; trivial; rfl; rfl) | (apply U.len; rfl; trivial; rfl) | refine Tri.skip ?_ | refine Tri.block ?_ | refine Tri.exit ?_ | refine Tri.ret ?_ | (refine Tri.cond rfl (fun h => ?_) (fun h => ?_) <;> (try simp at h) <;> (try contradiction)) | fail)
      · have hlt : i < l.length := by omega
        have hget := get_ty hlt
        have hel := hel i hlt
        have hd := List.drop_eq_getElem_cons hlt
        rw [hd, rowN] at hr
        have hbd := congrArg List.length hr
        simp only [List.length_append, List.length_cons, List.length_nil] at hbd
        cases hy : flN l[i] with
        | nil =>
          rw [hy] at hel hr
          repeat' (first | (apply U.loadES; rfl; rfl; trivial; rfl; rfl; rfl) | (apply U.idx; rfl; trivial; rfl; trivial; exact fun _ => (by omega); exact fun _ => (by assumption); exact fun _ => rfl; rfl) | refine U.call1 rfl rfl (by assumption) rfl ?_ | fail)
          refine U.appNil0 rfl (SrcE.t (n := true) rfl rfl) rfl ?_
          repeat' (first | refine Tri.reg ?_ | refine TriL.nil ?_ | (apply U.moveT; rfl; trivial; rfl) | (apply U.assignT; rfl; trivial; rfl) | (apply U.add; rfl; trivial; rfl; trivial; exact fun _ => wrap_i64 (by omega) (by omega); rfl) | fail)
          exact ⟨(i + 1, []), ⟨hlt, hr⟩, by dsimp only; omega, Sub.less (Sub.ofn (by decide) rfl ⟨rfl, rfl, rfl, trivial⟩ trivial rfl rfl)⟩
        | cons z zs =>
          rw [hy] at hel hr hbd
          repeat' (first | (apply U.loadES; rfl; rfl; trivial; rfl; rfl; rfl) | (apply U.idx; rfl; trivial; rfl; trivial; exact fun _ => (by omega); exact fun _ => (by assumption); exact fun _ => rfl; rfl) | refine U.call1 rfl rfl (by assumption) rfl ?_ | fail)
          refine U.appNil rfl (SrcE.t (n := false) rfl (leaves_int (z :: zs))) (by simp) (by simp at hbd ⊢; omega) (by simp at hbd ⊢; omega) rfl ?_
          repeat' (first | refine Tri.reg ?_ | refine TriL.nil ?_ | (apply U.moveT; rfl; trivial; rfl) | (apply U.assignT; rfl; trivial; rfl) | (apply U.assignR; rfl; trivial; rfl) | (apply U.add; rfl; trivial; rfl; trivial; exact fun _ => wrap_i64 (by omega) (by omega); rfl) | fail)
          refine ⟨(i + 1, z :: zs), ⟨hlt, hr⟩, by dsimp only; omega, Less.ren (fun b => if b = 0 then 0 else b) rfl rfl ⟨rfl, ?_, rfl, trivial⟩ ⟨rfl, trivial⟩ rfl rfl rfl⟩
          refine congrArg some ?_
          show PV.ref 0 1 0 _ _ = PV.ref 0 1 0 _ _
          simp
      · refine Comes1.ret rfl ?_
        have : i = l.length := by omega
        subst this
        rw [List.drop_length, rowN] at hr
        rw [hr]; rfl
    · dsimp only at hi hr ⊢
      repeat' (first | refine Tri.seq ?_ | refine Tri.reg ?_ | refine TriL.nil ?_ | (apply U.moveT; rfl; trivial; rfl) | (apply U.moveR; rfl; trivial; rfl) | (apply U.assignR; rfl; trivial; rfl) | (apply U.bin; rfl; trivial; rfl; trivial; rfl; rfl) | (apply U.len; rfl; trivial; rfl) | refine Tri.skip ?_ | refine Tri.block ?_ | refine Tri.exit ?_ | refine Tri.ret ?_ | (refine Tri.cond rfl (fun h => ?_) (fun h => ?_) <;> (try simp at h) <;> (try contradiction)) | fail)
      · have hlt : i < l.length := by omega
        have hget := get_ty hlt
        have hel := hel i hlt
        have hd := List.drop_eq_getElem_cons hlt
        rw [hd, rowN] at hr
        have hbd := congrArg List.length hr
        simp only [List.length_append, List.length_cons] at hbd
        repeat' (first | (apply U.loadES; rfl; rfl; trivial; rfl; rfl; rfl) | (apply U.idx; rfl; trivial; rfl; trivial; exact fun _ => (by omega); exact fun _ => (by assumption); exact fun _ => rfl; rfl) | refine U.call1 rfl rfl (by assumption) rfl ?_ | fail)
        refine U.appOwn rfl rfl (by simp) (by simp) (SrcE.t rfl (leaves_int _)) (by simp; omega) (by simp; omega) rfl ?_
        repeat' (first | refine Tri.reg ?_ | refine TriL.nil ?_ | (apply U.moveT; rfl; trivial; rfl) | (apply U.assignT; rfl; trivial; rfl) | (apply U.assignR; rfl; trivial; rfl) | (apply U.add; rfl; trivial; rfl; trivial; exact fun _ => wrap_i64 (by omega) (by omega); rfl) | fail)
        refine ⟨(i + 1, y :: (ys ++ flN l[i])), ⟨hlt, by rw [hr]; simp⟩, by dsimp only; omega, Less.ren (fun b => if b = 0 then 1 else b) rfl rfl ⟨rfl, ?_, rfl, trivial⟩ ⟨?_, trivial⟩ rfl rfl rfl⟩
        · refine congrArg some ?_
          show PV.ref 1 1 0 _ _ = PV.ref 1 1 0 _ _
          simp; omega
        · refine congrArg some ?_
          show Blk.row 1 _ false = Blk.row 1 _ false
          simp
      · refine Comes1.retF rfl rfl (by simp) ?_
        have : i = l.length := by omega
        subst this
        rw [List.drop_length, rowN] at hr
        rw [hr]
        simp [iT]
        exact List.take_of_length_le (by simp)
theorem cores_core (t : Ty) (hl : t.l.length ≤ big) (h16 : t.kind = 16 → t.l = []) (hk : 0 ≤ t.kind)
    (hel : ∀ (i : Nat) (h : i < t.l.length), E.Pure Tryd.prog 14 [agTy t.l[i]] (.one (.t (iT (flN t.l[i]))))) (hrow : (rowN t.l).length ≤ 1000000) (hjs : (joinsN [] t.l).length ≤ 1000000) :
    E.Pure Tryd.prog 14 [encTy t] (.one (.t (iT (flN t)))) := by
  have hro := row_core t.l t.nl hl hel hrow
  unfold big at hl
  have hlen := encTys_length t.l
  refine Pure.of1 Tryd.func14 rfl rfl (Nat.le_of_ble_eq_true rfl) rfl ?_
  rw [encTy_eta t]
  repeat' (first | refine Tri.seq ?_ | refine Tri.reg ?_ | refine TriL.nil ?_ | (apply U.moveT; rfl; trivial; rfl) | (apply U.assignT; rfl; trivial; rfl) | (apply U.load; rfl; rfl; trivial; rfl; rfl; rfl) | (apply U.fld; rfl; trivial; rfl; infer_instance; decide; rfl) | (apply U.bin; rfl; trivial; rfl; trivial; rfl; rfl) | (apply U.pickb; rfl; trivial; rfl; (first | trivial | exact id | exact And.right | exact gvA | exact gvB | exact And.left | exact gvN | exact gvP2 | exact gvN2 | exact gvLA); rfl; (first | trivial | exact id | exact And.right | exact gvA | exact gvB | exact And.left | exact gvN | exact gvP2 | exact gvN2 | exact gvLA); rfl) | (apply U.boxA; rfl; rfl) | (apply G.moveT; rfl; (first | trivial | exact id | exact And.right | exact gvA | exact gvB | exact And.left | exact gvN | exact gvP2 | exact gvN2 | exact gvLA); rfl; rfl; rfl) | (apply G.bin; rfl; (first | trivial | exact id | exact And.right | exact gvA | exact gvB | exact And.left | exact gvN | exact gvP2 | exact gvN2 | exact gvLA); rfl; (first | trivial | exact id | exact And.right | exact gvA | exact gvB | exact And.left | exact gvN | exact gvP2 | exact gvN2 | exact gvLA); rfl; rfl; rfl; rfl) | refine U.call1 rfl rfl (by assumption) rfl ?_ | refine Tri.skip ?_ | refine Tri.ret ?_ | (refine Tri.cond rfl (fun h => ?_) (fun h => ?_) <;> (try simp at h) <;> (try contradiction)) | fail)
  · refine Comes1.ret rfl ?_
    rw [flN_eq, show t.kind = 0 by assumption]; rfl
  · (apply U.litT; rfl; rfl; rfl; rfl; rfl; rfl; rfl; rfl)
    repeat' (first | refine TriL.nil ?_ | (apply U.assignT; rfl; trivial; rfl) | refine Tri.ret ?_ | fail)
    refine Comes1.ret rfl ?_
    rw [flN_eq, flK, if_neg (by omega), if_pos (by assumption)]; rfl
  · (apply U.litT; rfl; rfl; rfl; rfl; rfl; rfl; rfl; rfl)
    repeat' (first | refine TriL.nil ?_ | (apply U.assignT; rfl; trivial; rfl) | refine Tri.ret ?_ | fail)
    refine Comes1.ret rfl ?_
    rw [flN_eq, flK, if_neg (by omega), if_neg (by omega), if_pos (by assumption)]; rfl
  · refine Comes1.ret rfl ?_
    rw [flN_eq, flK, if_neg (by omega), if_neg (by omega), if_neg (by omega), if_pos (by assumption)]
  · (apply U.lit; rfl; rfl; rfl; rfl; rfl; rfl; rfl; rfl)
    repeat' (first | refine Tri.seq ?_ | refine Tri.reg ?_ | refine TriL.nil ?_ | (apply U.moveT; rfl; trivial; rfl) | (apply U.assignT; rfl; trivial; rfl) | (apply U.moveR; rfl; trivial; rfl) | (apply U.assignR; rfl; trivial; rfl) | (apply U.bin; rfl; trivial; rfl; trivial; rfl; rfl) | (apply U.pickb; rfl; trivial; rfl; (first | trivial | exact id | exact And.right | exact gvA | exact gvB | exact And.left | exact gvN | exact gvP2 | exact gvN2 | exact gvLA); rfl; (first | trivial | exact id | exact And.right | exact gvA | exact gvB | exact And.left | exact gvN | exact gvP2 | exact gvN2 | exact gvLA); rfl) | (apply G.moveT; rfl; (first | trivial | exact id | exact And.right | exact gvA | exact gvB | exact And.left | exact gvN | exact gvP2 | exact gvN2 | exact gvLA); rfl; rfl; rfl) | (apply G.bin; rfl; (first | trivial | exact id | exact And.right | exact gvA | exact gvB | exact And.left | exact gvN | exact gvP2 | exact gvN2 | exact gvLA); rfl; (first | trivial | exact id | exact And.right | exact gvA | exact gvB | exact And.left | exact gvN | exact gvP2 | exact gvN2 | exact gvLA); rfl; rfl; rfl; rfl) | refine Tri.skip ?_ | refine Tri.block ?_ | refine Tri.ret ?_ | (refine Tri.cond rfl (fun h => ?_) (fun h => ?_) <;> (try simp at h) <;> (try contradiction)) | fail)
    · refine Comes1.retF rfl rfl (by simp) ?_
      rw [flN_eq, flK, if_neg (by omega), if_neg (by omega), if_neg (by omega), if_neg (by omega), if_neg (by omega)]; rfl
    have hfl : flN t = 127 :: joinsN [] t.l := by
      rw [flN_eq, flK, if_neg (by omega), if_neg (by omega), if_neg (by omega), if_neg (by omega)]
      by_cases k : t.kind = 16
      · rw [if_neg (by omega), h16 k]; rfl
      · rw [if_pos (by omega)]
    rw [hfl]
    refine Tri.loopL (α := Nat × List Int) (fun a => ⟨[(5, .t (tInt a.1)), (4, .ref 1 1 0 (a.2.length + 1) (a.2.length + 1)), (1, .ptr 0 0)], Tryd.f14.ntmps, [(1, .row 1 ((127 :: a.2).map tInt) false), (0, .obj [.t (.v (.int .i64 t.kind)), .t (.sl t.nn (t.names.map tStr)), .t (.sl t.nl (encTys t.l)), .t (.v (.int .i64 t.r))])], 0, 2⟩)
      (fun a => a.1 ≤ t.l.length ∧ joinsN [] t.l = joinsN a.2 (t.l.drop a.1)) (fun a => t.l.length - a.1) (0, []) ?_ ?_ ?_
    · exact ⟨Nat.zero_le _, rfl⟩
    · exact Sub.less (Sub.of rfl rfl ⟨rfl, rfl, rfl, trivial⟩ ⟨rfl, rfl, trivial⟩)
    · rintro ⟨i, m⟩ ⟨hi, hr⟩
      dsimp only at hi hr ⊢
      repeat' (first | refine Tri.seq ?_ | refine Tri.reg ?_ | refine TriL.nil ?_ | (apply U.moveT; rfl; trivial; rfl) | (apply U.moveR; rfl; trivial; rfl) | (apply U.assignR; rfl; trivial; rfl) | (apply U.load; rfl; rfl; trivial; rfl; rfl; rfl) | (apply U.fld; rfl; trivial; rfl; infer_instance; decide; rfl) | (apply U.bin; rfl; trivial; rfl; trivial; rfl; rfl) | (apply U.len; rfl; trivial; rfl) | refine Tri.skip ?_ | refine Tri.block ?_ | refine Tri.exit ?_ | refine Tri.ret ?_ | (refine Tri.cond rfl (fun h => ?_) (fun h => ?_) <;> (try simp at h) <;> (try contradiction)) | fail)
      · have hlt : i < t.l.length := by omega
        have hget := get_ty hlt
        have hel := hel i hlt
        have hd := List.drop_eq_getElem_cons hlt
        rw [hd, joinsN] at hr
        generalize hys : flN t.l[i] = ys at *
        have hm := joinsN_ge (zipJ m ys) (t.l.drop (i + 1))
        rw [← hr] at hm
        have hz := zipJ_len m ys
        have hlen3 : (ys.map tInt).length = ys.length := by simp
        repeat' (first | refine Tri.seq ?_ | refine Tri.reg ?_ | refine TriL.nil ?_ | (apply U.assignT; rfl; trivial; rfl) | (apply U.loadES; rfl; rfl; trivial; rfl; rfl; rfl) | (apply U.idx; rfl; trivial; rfl; trivial; exact fun _ => (by omega); exact fun _ => (by assumption); exact fun _ => rfl; rfl) | refine U.call1 rfl rfl (by assumption) rfl ?_ | refine Tri.block ?_ | fail)
        refine Tri.loopL (α := Nat × List Int × List Int) (fun a => ⟨[(7, .t (tInt a.1)), (6, .t (iT ys)), (5, .t (tInt i)), (4, .ref 1 1 0 (a.2.1.length + a.2.2.length + 1) (a.2.1.length + a.2.2.length + 1)), (1, .ptr 0 0)], Tryd.f14.ntmps, [(1, .row 1 ((127 :: (a.2.1 ++ a.2.2)).map tInt) false), (0, .obj [.t (.v (.int .i64 t.kind)), .t (.sl t.nn (t.names.map tStr)), .t (.sl t.nl (encTys t.l)), .t (.v (.int .i64 t.r))])], 0, 2⟩)
          (fun a => a.1 ≤ ys.length ∧ a.2.1.length = a.1 ∧ zipJ m ys = a.2.1 ++ zipJ a.2.2 (ys.drop a.1)) (fun a => ys.length - a.1) (0, [], m) ?_ ?_ ?_
        · exact ⟨Nat.zero_le _, rfl, rfl⟩
        · refine Sub.less (Sub.ofn (by decide) rfl ⟨rfl, rfl, rfl, ?_, rfl, trivial⟩ ⟨rfl, rfl, trivial⟩ rfl rfl)
          · refine congrArg some ?_
            show PV.ref 1 1 0 _ _ = PV.ref 1 1 0 _ _
            simp
        · rintro ⟨j, pre, rest⟩ ⟨hj, hpl, hq⟩
          dsimp only at hj hpl hq ⊢
          have hql := congrArg List.length hq
          rw [List.length_append, zipJ_len] at hql
          have hout : ∀ rs : List Int, ys.length ≤ j → zipJ m ys = pre ++ zipJ rs (ys.drop j) → zipJ m ys = pre ++ rs := fun rs h1 h2 => by
            rw [List.drop_eq_nil_of_le (by omega), zipJ_nil] at h2; exact h2
          rcases rest with _ | ⟨r, rest⟩
          · repeat' (first | refine Tri.seq ?_ | refine Tri.reg ?_ | refine TriL.nil ?_ | (apply U.moveT; rfl; trivial; rfl) | (apply U.assignT; rfl; trivial; rfl) | (apply U.moveR; rfl; trivial; rfl) | (apply U.add; rfl; trivial; rfl; trivial; exact fun _ => wrap_i64 (by omega) (by omega); rfl) | (apply U.bin; rfl; trivial; rfl; trivial; rfl; rfl) | (apply U.len; rfl; trivial; rfl) | (apply U.lenR; rfl; trivial; rfl) | refine Tri.skip ?_ | refine Tri.block ?_ | refine Tri.exit ?_ | (refine Tri.cond rfl (fun h => ?_) (fun h => ?_) <;> (try simp at h) <;> (try contradiction)) | fail)
            · have hjl : j < ys.length := by omega
              have hgi : (ys.map tInt)[((j : Nat) : Int).toNat]? = some (tInt ys[j]) := by simp [hjl]
              have hdj := List.drop_eq_getElem_cons hjl
              · repeat' (first | (apply U.loadE; rfl; rfl; trivial; rfl; rfl) | (apply U.idx; rfl; trivial; rfl; trivial; exact fun _ => (by omega); exact fun _ => (by assumption); exact fun _ => rfl; rfl) | fail)
                (apply U.litT; rfl; rfl; rfl; rfl; rfl; rfl; rfl; rfl)
                skip
                refine U.appOwn rfl rfl (by simp) (by simp) (SrcE.t rfl (leaves_int [ys[j]])) (by simp; omega) (by simp; omega) rfl ?_
                repeat' (first | refine Tri.reg ?_ | refine TriL.nil ?_ | (apply U.moveT; rfl; trivial; rfl) | (apply U.assignT; rfl; trivial; rfl) | (apply U.assignR; rfl; trivial; rfl) | (apply U.add; rfl; trivial; rfl; trivial; exact fun _ => wrap_i64 (by omega) (by omega); rfl) | fail)
                refine ⟨(j + 1, pre ++ [ys[j]], []), ⟨hjl, by simp [hpl], by rw [hq, hdj]; simp [zipJ]⟩, by dsimp only; omega, Less.ren (fun b => if b = 1 then 2 else b) rfl rfl ⟨rfl, rfl, rfl, ?_, rfl, trivial⟩ ⟨?_, rfl, trivial⟩ rfl rfl rfl⟩
                · refine congrArg some ?_
                  show PV.ref 2 1 0 _ _ = PV.ref 2 1 0 _ _
                  simp
                · refine congrArg some ?_
                  show Blk.row 1 _ false = Blk.row 1 _ false
                  simp
            · exfalso; omega
            · refine ⟨(i + 1, pre), ⟨hlt, ?_⟩, by dsimp only; omega, Sub.less (Sub.of rfl rfl ⟨rfl, rfl, rfl, trivial⟩ ⟨?_, rfl, trivial⟩)⟩
              · rw [hr, hout [] (by omega) hq, List.append_nil]
              · refine congrArg some ?_
                show Blk.row 1 _ false = Blk.row 1 _ false
                simp
          · repeat' (first | refine Tri.seq ?_ | refine Tri.reg ?_ | refine TriL.nil ?_ | (apply U.moveT; rfl; trivial; rfl) | (apply U.assignT; rfl; trivial; rfl) | (apply U.moveR; rfl; trivial; rfl) | (apply U.add; rfl; trivial; rfl; trivial; exact fun _ => wrap_i64 (by omega) (by omega); rfl) | (apply U.bin; rfl; trivial; rfl; trivial; rfl; rfl) | (apply U.len; rfl; trivial; rfl) | (apply U.lenR; rfl; trivial; rfl) | refine Tri.skip ?_ | refine Tri.block ?_ | refine Tri.exit ?_ | (refine Tri.cond rfl (fun h => ?_) (fun h => ?_) <;> (try simp at h) <;> (try contradiction)) | fail)
            · exfalso; simp at *; omega
            · have hjl : j < ys.length := by omega
              have hgi : (ys.map tInt)[((j : Nat) : Int).toNat]? = some (tInt ys[j]) := by simp [hjl]
              have hdj := List.drop_eq_getElem_cons hjl
              have hrl : (r :: rest).length = rest.length + 1 := rfl
              have he : 0 + ((j : Int) + 1).toNat = j + 1 := by omega
              have hrow : ((127 :: (pre ++ r :: rest)).map tInt)[0 + ((j : Int) + 1).toNat]? = some (tInt r) := by
                rw [he]; simp [List.getElem?_append_right, hpl]
              · refine Tri.regD [] mixed (by kernel_rfl) ?_
                repeat' (first | refine TriL.nil ?_ | exact ⟨rfl, rfl, rfl⟩ | (apply D.v; rfl; rfl; rfl) | refine D.nil ?_ | (apply U.moveT; rfl; trivial; rfl) | (apply U.moveR; rfl; trivial; rfl) | (apply U.add; rfl; trivial; rfl; trivial; exact fun _ => wrap_i64 (by omega) (by omega); rfl) | (apply U.loadE; rfl; rfl; trivial; rfl; rfl) | (apply U.idx; rfl; trivial; rfl; trivial; exact fun _ => (by omega); exact fun _ => (by assumption); exact fun _ => rfl; rfl) | (apply U.idxR; rfl; trivial; rfl; trivial; exact fun _ => (by omega); exact fun _ => (by omega); rfl) | fail)
                · refine U.loadR rfl rfl trivial rfl hrow rfl rfl ?_
                  repeat' (first | refine TriL.nil ?_ | exact ⟨rfl, rfl, rfl⟩ | fail)
                repeat' (first | refine Tri.reg ?_ | refine TriL.nil ?_ | exact ⟨rfl, rfl, rfl⟩ | (apply U.moveT; rfl; trivial; rfl) | (apply U.assignT; rfl; trivial; rfl) | (apply U.moveR; rfl; trivial; rfl) | (apply U.add; rfl; trivial; rfl; trivial; exact fun _ => wrap_i64 (by omega) (by omega); rfl) | (apply U.bin; rfl; trivial; rfl; trivial; rfl; rfl) | refine Tri.skip ?_ | (apply U.idxR; rfl; trivial; rfl; trivial; exact fun _ => (by omega); exact fun _ => (by omega); rfl) | (refine Tri.cond rfl (fun h => ?_) (fun h => ?_) <;> (try simp at h) <;> (try contradiction)) | fail)
                · refine U.storeR rfl rfl rfl rfl rfl (by rw [he]; simp; omega) ?_
                  repeat' (first | refine Tri.reg ?_ | refine TriL.nil ?_ | (apply U.moveT; rfl; trivial; rfl) | (apply U.assignT; rfl; trivial; rfl) | (apply U.add; rfl; trivial; rfl; trivial; exact fun _ => wrap_i64 (by omega) (by omega); rfl) | fail)
                  have hj : joinN r ys[j] = 126 := by rw [joinN, if_neg (by assumption)]
                  refine ⟨(j + 1, pre ++ [joinN r ys[j]], rest), ⟨hjl, by simp [hpl], by rw [hq, hdj]; simp [zipJ]⟩, by dsimp only; omega, Sub.less (Sub.of rfl rfl ⟨rfl, rfl, rfl, ?_, rfl, trivial⟩ ⟨?_, rfl, trivial⟩)⟩
                  · refine congrArg some ?_
                    show PV.ref 1 1 0 _ _ = PV.ref 1 1 0 _ _
                    simp; omega
                  · refine congrArg some ?_
                    show Blk.row 1 _ false = Blk.row 1 _ false
                    rw [he, hj]
                    simp [List.set_append_right, hpl]
                    rfl
                · have hj : joinN r ys[j] = r := by rw [joinN, if_pos (by assumption)]
                  refine ⟨(j + 1, pre ++ [joinN r ys[j]], rest), ⟨hjl, by simp [hpl], by rw [hq, hdj]; simp [zipJ]⟩, by dsimp only; omega, Sub.less (Sub.of rfl rfl ⟨rfl, rfl, rfl, ?_, rfl, trivial⟩ ⟨?_, rfl, trivial⟩)⟩
                  · refine congrArg some ?_
                    show PV.ref 1 1 0 _ _ = PV.ref 1 1 0 _ _
                    simp; omega
                  · refine congrArg some ?_
                    show Blk.row 1 _ false = Blk.row 1 _ false
                    rw [hj]; simp
            · refine ⟨(i + 1, pre ++ r :: rest), ⟨hlt, ?_⟩, by dsimp only; omega, Sub.less (Sub.of rfl rfl ⟨rfl, ?_, rfl, trivial⟩ ⟨rfl, rfl, trivial⟩)⟩
              · rw [hr, hout (r :: rest) (by omega) hq]
              · refine congrArg some ?_
                show PV.ref 1 1 0 _ _ = PV.ref 1 1 0 _ _
                simp
      · refine Comes1.retF rfl rfl (by simp) ?_
        have : i = t.l.length := by omega
        subst this
        rw [List.drop_length, joinsN] at hr
        rw [hr]
        simp [iT]
        exact List.take_of_length_le (by simp)
theorem len_fl {t : Ty} (h : t.kind ≠ 0 → partsN t ≤ 500) : (flN t).length ≤ 1000 := by
  have h1 := flN_len t h
  have h2 : pw t ≤ 500 := by
    by_cases hk : t.kind = 0
    · rw [pw, if_pos hk]; omega
    · rw [pw, if_neg hk]; exact h hk
  omega
theorem cores_gd (t : Ty) (h : Gd t) (hel : ∀ (i : Nat) (h : i < t.l.length), E.Pure Tryd.prog 14 [agTy t.l[i]] (.one (.t (iT (flN t.l[i]))))) : E.Pure Tryd.prog 14 [encTy t] (.one (.t (iT (flN t)))) := by
  have hr := rowN_len _ 1 (by omega) h.sum
  have hj := joinsN_len _ [] 1 (by omega) (by simp) h.sum
  have hs := h.sum
  have hl := h.l
  exact cores_core t (by unfold big; omega) h.k16 (by have := h.ki; omega) hel (by omega) (by omega)
theorem cores_p : ∀ (m : Nat) (t : Ty), SizeOf.sizeOf t ≤ m → Gd t → E.Pure Tryd.prog 14 [encTy t] (.one (.t (iT (flN t)))) := by
  intro m
  induction m with
  | zero => intro t hm; cases t; simp at hm
  | succ m ih =>
    intro t hm h
    refine cores_gd t h fun i hi => ?_
    have hmem := List.getElem_mem hi
    have hsz := size_get hi t rfl
    have := ih t.l[i] (by omega) ((h.el _ hmem).1.gd (h.el _ hmem).2)
    rwa [encTy_eta] at this
end Go.Proofs.YtaplmmhkpljmkaaDoor
