/- Layer 13: the reference's Plain. -/
import Derived.Test.YtaplmmhkpljmkaaDoorC25
namespace Go.Proofs.YtaplmmhkpljmkaaDoor
open Go E
set_option maxRecDepth 100000
set_option maxHeartbeats 4000000
set_option linter.unusedVariables false
set_option linter.unusedSimpArgs false
attribute [local irreducible] Tri TriL TriO PO VO E.Pure DOb
theorem plainR_p (t : Ty) (h1 : t.names.length ≤ 64) (h2 : t.l.length ≤ 64) : E.Pure Tryd.prog 12 [encTy t] (.one (.t (encTy (plainT true t)))) := by
  have hlen := encTys_length t.l
  have hlen2 : (t.names.map tStr).length = t.names.length := by simp
  refine Pure.ofC rfl Tryd.func12 rfl rfl (Nat.le_of_ble_eq_true rfl) rfl ?_
  rw [encTy_eta t]
  repeat' (first | refine Tri.seq ?_ | refine Tri.reg ?_ | refine TriL.nil ?_ | (apply U.assignT; rfl; trivial; rfl) | (apply U.load; rfl; rfl; trivial; rfl; rfl; rfl) | (apply U.fld; rfl; trivial; rfl; infer_instance; decide; rfl) | (apply U.bin; rfl; trivial; rfl; trivial; rfl; rfl) | (apply U.loadS; rfl; rfl; trivial; rfl; rfl; rfl; rfl; rfl) | (apply U.boxA; rfl; rfl) | (apply U.alloc; rfl; rfl; rfl; rfl) | (apply U.storeS; rfl; rfl; rfl; rfl; rfl; rfl; rfl; rfl) | refine Tri.skip ?_ | refine Tri.block ?_ | refine Tri.ret ?_ | (apply U.build; rfl; rfl; rfl; rfl; rfl) | (refine Tri.cond rfl (fun h => ?_) (fun h => ?_) <;> (try simp at h) <;> (try contradiction)) | fail)
  · -- a tuple
    have h14 := h
    refine Tri.loopL (fun i => match i with
        | 0 => ⟨[(4, .t (tInt ((0 : Nat) : Int))), (3, .ptr 2 0), (2, .ptr 1 0), (1, .ptr 0 0)], Tryd.f12.ntmps, [(2, .obj [.t (tInt 13), .t (.sl true []), .t (.sl true []), .t (tInt 0)]), (1, .obj [.t (tInt 0), .t (.sl true []), .t (.sl true []), .t (tInt 0)]), (0, .obj [.t (.v (.int .i64 t.kind)), .t (.sl t.nn (t.names.map tStr)), .t (.sl t.nl (encTys t.l)), .t (.v (.int .i64 t.r))])], 0, 3⟩
        | k + 1 => ⟨[(4, .t (tInt ((k + 1 : Nat) : Int))), (3, .ptr 2 0), (2, .ptr 1 0), (1, .ptr 0 0)], Tryd.f12.ntmps, [(2, .obj [.t (tInt 13), .ref 3 1 0 (k + 1) (k + 1), .ref 4 4 0 (k + 1) (k + 1), .t (tInt 0)]), (1, .obj [.t (tInt 0), .t (.sl true []), .t (.sl true []), .t (tInt 0)]), (0, .obj [.t (.v (.int .i64 t.kind)), .t (.sl t.nn (t.names.map tStr)), .t (.sl t.nl (encTys t.l)), .t (.v (.int .i64 t.r))]), (3, .row 1 ((digs (k + 1)).map tStr) false), (4, .row 4 (encTys (t.l.take (k + 1))) false)], 0, 5⟩)
      (fun i => i ≤ t.l.length) (fun i => t.l.length - i) 0 (Nat.zero_le _) ?_ ?_
    · exact Sub.less (Sub.of rfl rfl ⟨rfl, rfl, rfl, rfl, trivial⟩ ⟨rfl, rfl, rfl, trivial⟩)
    rintro (_ | k) hi
    · repeat' (first | refine Tri.seq ?_ | refine Tri.reg ?_ | refine TriL.nil ?_ | (apply U.moveT; rfl; trivial; rfl) | (apply U.assignT; rfl; trivial; rfl) | (apply U.load; rfl; rfl; trivial; rfl; rfl; rfl) | (apply U.fld; rfl; trivial; rfl; infer_instance; decide; rfl) | (apply U.bin; rfl; trivial; rfl; trivial; rfl; rfl) | (apply U.len; rfl; trivial; rfl) | (apply U.loadS; rfl; rfl; trivial; rfl; rfl; rfl; rfl; rfl) | (apply U.storeS; rfl; rfl; rfl; rfl; rfl; rfl; rfl; rfl) | refine Tri.skip ?_ | refine Tri.block ?_ | refine Tri.exit ?_ | refine Tri.ret ?_ | (apply U.build; rfl; rfl; rfl; rfl; rfl) | (refine Tri.cond rfl (fun h => ?_) (fun h => ?_) <;> (try simp at h) <;> (try contradiction)) | fail)
      · have hlt : 0 < t.l.length := by omega
        have hget := get_ty hlt
        have hit := digits_p 0 (by omega)
        refine Tri.regD [5, 7] mixed (by kernel_rfl) ?_
        repeat' (first | refine TriL.nil ?_ | exact ⟨rfl, rfl, rfl⟩ | (apply D.v; rfl; rfl; rfl) | (apply U.moveT; rfl; trivial; rfl) | (apply U.load; rfl; rfl; trivial; rfl; rfl; rfl) | (apply U.fld; rfl; trivial; rfl; infer_instance; decide; rfl) | refine U.call1 rfl rfl (by assumption) rfl ?_ | fail)
        · (apply U.litT; rfl; rfl; rfl; rfl; rfl; rfl; rfl; rfl)
          repeat' (first | refine TriL.nil ?_ | exact ⟨rfl, rfl, rfl⟩ | fail)
        skip
        (apply D.e; rfl; rfl; rfl; rotate_left)
        · refine U.appNil rfl (SrcE.t rfl rfl) Nat.zero_lt_one (Nat.le_of_ble_eq_true rfl) (Nat.le_of_ble_eq_true rfl) rfl ?_
          repeat' (first | refine TriL.nil ?_ | exact ⟨rfl, rfl, rfl⟩ | fail)
        repeat' (first | refine TriL.nil ?_ | exact ⟨rfl, rfl, rfl⟩ | (apply D.v; rfl; rfl; rfl) | (apply U.fld; rfl; trivial; rfl; infer_instance; decide; rfl) | fail)
        (apply D.s; rfl; rfl; rfl; rotate_left)
        repeat' (first | refine TriL.nil ?_ | refine D.nil ?_ | (apply U.store; rfl; rfl; rfl; rfl; rfl; rfl; rfl) | exact ⟨rfl, rfl⟩ | fail)
        · refine Tri.regD [8, 10] mixed (by kernel_rfl) ?_
          repeat' (first | refine TriL.nil ?_ | exact ⟨rfl, rfl, rfl⟩ | (apply D.v; rfl; rfl; rfl) | (apply U.moveT; rfl; trivial; rfl) | (apply U.load; rfl; rfl; trivial; rfl; rfl; rfl) | (apply U.fld; rfl; trivial; rfl; infer_instance; decide; rfl) | (apply U.loadES; rfl; rfl; trivial; rfl; rfl; rfl) | (apply U.idx; rfl; trivial; rfl; trivial; exact fun _ => (by omega); exact fun _ => (by assumption); exact fun _ => rfl; rfl) | fail)
          · (apply U.litT; rfl; rfl; rfl; rfl; rfl; rfl; rfl; rfl)
            repeat' (first | refine TriL.nil ?_ | exact ⟨rfl, rfl, rfl⟩ | fail)
          skip
          (apply D.e; rfl; rfl; rfl; rotate_left)
          · refine U.appNil rfl (SrcE.t rfl rfl) Nat.zero_lt_one (Nat.le_of_ble_eq_true rfl) (Nat.le_of_ble_eq_true rfl) rfl ?_
            repeat' (first | refine TriL.nil ?_ | exact ⟨rfl, rfl, rfl⟩ | fail)
          repeat' (first | refine TriL.nil ?_ | exact ⟨rfl, rfl, rfl⟩ | (apply D.v; rfl; rfl; rfl) | (apply U.fld; rfl; trivial; rfl; infer_instance; decide; rfl) | fail)
          (apply D.s; rfl; rfl; rfl; rotate_left)
          repeat' (first | refine Tri.reg ?_ | refine TriL.nil ?_ | refine D.nil ?_ | (apply U.moveT; rfl; trivial; rfl) | (apply U.assignT; rfl; trivial; rfl) | (apply U.add; rfl; trivial; rfl; trivial; exact fun _ => wrap_i64 (by omega) (by omega); rfl) | (apply U.store; rfl; rfl; rfl; rfl; rfl; rfl; rfl) | exact ⟨rfl, rfl⟩ | fail)
          · refine ⟨0 + 1, hlt, by omega, ?_⟩
            refine Less.ren (fun b => if b = 3 then 3 else if b = 4 then 4 else b) rfl rfl ⟨rfl, rfl, rfl, rfl, trivial⟩ ⟨rfl, rfl, rfl, ?_, ?_, trivial⟩ rfl rfl rfl
            · rfl
            · rw [show t.l.take (0 + 1) = [t.l[0]] from (by rw [List.take_succ_eq_append_getElem hlt]; rfl), encTys, encTys, encTy_eta]; rfl
          all_goals first | (exact fun _ => .of ⟨rfl, rfl, trivial⟩) | (exact fun _ => .nil) | (intro h_; cases h_)
        all_goals first | (exact fun _ => .of ⟨rfl, rfl, trivial⟩) | (exact fun _ => .nil) | (intro h_; cases h_)
      · exfalso; omega
      · exfalso; omega
      · exfalso; omega
      · -- the end
        have hz : t.l.length = 0 := by first | omega | exact List.length_eq_zero_iff.2 (by assumption) | (have h0_ : encTys t.l = [] := (by assumption); rw [h0_] at hlen; exact hlen.symm)
        refine ComesC.tree rfl rfl rfl rfl ?_
        rw [plainT, if_pos (by assumption)]
        have : t.l = [] := List.length_eq_zero_iff.1 hz
        rw [this]; rfl
    · repeat' (first | refine Tri.seq ?_ | refine Tri.reg ?_ | refine TriL.nil ?_ | (apply U.moveT; rfl; trivial; rfl) | (apply U.assignT; rfl; trivial; rfl) | (apply U.load; rfl; rfl; trivial; rfl; rfl; rfl) | (apply U.fld; rfl; trivial; rfl; infer_instance; decide; rfl) | (apply U.bin; rfl; trivial; rfl; trivial; rfl; rfl) | (apply U.len; rfl; trivial; rfl) | (apply U.loadS; rfl; rfl; trivial; rfl; rfl; rfl; rfl; rfl) | (apply U.storeS; rfl; rfl; rfl; rfl; rfl; rfl; rfl; rfl) | refine Tri.skip ?_ | refine Tri.block ?_ | refine Tri.exit ?_ | refine Tri.ret ?_ | (apply U.build; rfl; rfl; rfl; rfl; rfl) | (refine Tri.cond rfl (fun h => ?_) (fun h => ?_) <;> (try simp at h) <;> (try contradiction)) | fail)
      · have hlt : k + 1 < t.l.length := by omega
        have hget := get_ty hlt
        have hit := digits_p (k + 1) (by omega)
        refine Tri.regD [5, 7] mixed (by kernel_rfl) ?_
        repeat' (first | refine TriL.nil ?_ | exact ⟨rfl, rfl, rfl⟩ | (apply D.v; rfl; rfl; rfl) | (apply U.moveT; rfl; trivial; rfl) | (apply U.load; rfl; rfl; trivial; rfl; rfl; rfl) | (apply U.fld; rfl; trivial; rfl; infer_instance; decide; rfl) | refine U.call1 rfl rfl (by assumption) rfl ?_ | fail)
        · (apply U.litT; rfl; rfl; rfl; rfl; rfl; rfl; rfl; rfl)
          repeat' (first | refine TriL.nil ?_ | exact ⟨rfl, rfl, rfl⟩ | fail)
        skip
        (apply D.e; rfl; rfl; rfl; rotate_left)
        · refine U.appOwn rfl rfl (by simp [digs]) (by simp [digs]) (SrcE.t rfl rfl) (by simp; omega) (by simp; omega) rfl ?_
          repeat' (first | refine TriL.nil ?_ | exact ⟨rfl, rfl, rfl⟩ | fail)
        repeat' (first | refine TriL.nil ?_ | exact ⟨rfl, rfl, rfl⟩ | (apply D.v; rfl; rfl; rfl) | (apply U.fld; rfl; trivial; rfl; infer_instance; decide; rfl) | fail)
        (apply D.s; rfl; rfl; rfl; rotate_left)
        repeat' (first | refine TriL.nil ?_ | refine D.nil ?_ | (apply U.store; rfl; rfl; rfl; rfl; rfl; rfl; rfl) | exact ⟨rfl, rfl⟩ | fail)
        · refine Tri.regD [8, 10] mixed (by kernel_rfl) ?_
          repeat' (first | refine TriL.nil ?_ | exact ⟨rfl, rfl, rfl⟩ | (apply D.v; rfl; rfl; rfl) | (apply U.moveT; rfl; trivial; rfl) | (apply U.load; rfl; rfl; trivial; rfl; rfl; rfl) | (apply U.fld; rfl; trivial; rfl; infer_instance; decide; rfl) | (apply U.loadES; rfl; rfl; trivial; rfl; rfl; rfl) | (apply U.idx; rfl; trivial; rfl; trivial; exact fun _ => (by omega); exact fun _ => (by assumption); exact fun _ => rfl; rfl) | fail)
          · (apply U.litT; rfl; rfl; rfl; rfl; rfl; rfl; rfl; rfl)
            repeat' (first | refine TriL.nil ?_ | exact ⟨rfl, rfl, rfl⟩ | fail)
          skip
          (apply D.e; rfl; rfl; rfl; rotate_left)
          · refine U.appOwn rfl rfl (by simp [encTys_length]; omega) (by simp [encTys_length]; omega) (SrcE.t rfl rfl) (by simp; omega) (by simp; omega) rfl ?_
            repeat' (first | refine TriL.nil ?_ | exact ⟨rfl, rfl, rfl⟩ | fail)
          repeat' (first | refine TriL.nil ?_ | exact ⟨rfl, rfl, rfl⟩ | (apply D.v; rfl; rfl; rfl) | (apply U.fld; rfl; trivial; rfl; infer_instance; decide; rfl) | fail)
          (apply D.s; rfl; rfl; rfl; rotate_left)
          repeat' (first | refine Tri.reg ?_ | refine TriL.nil ?_ | refine D.nil ?_ | (apply U.moveT; rfl; trivial; rfl) | (apply U.assignT; rfl; trivial; rfl) | (apply U.add; rfl; trivial; rfl; trivial; exact fun _ => wrap_i64 (by omega) (by omega); rfl) | (apply U.store; rfl; rfl; rfl; rfl; rfl; rfl; rfl) | exact ⟨rfl, rfl⟩ | fail)
          · refine ⟨k + 1 + 1, hlt, by omega, ?_⟩
            refine Less.ren (fun b => if b = 3 then 5 else if b = 4 then 6 else b) rfl rfl ⟨rfl, rfl, rfl, rfl, trivial⟩ ⟨rfl, rfl, rfl, ?_, ?_, trivial⟩ rfl rfl rfl
            · rw [show (digs (k + 1 + 1)).map tStr = (digs (k + 1)).map tStr ++ [tStr (digT (k + 1))] from (by simp [digs, List.range_succ])]; rfl
            · rw [List.take_succ_eq_append_getElem hlt, encTys_app, encTys, encTys, encTy_eta]; rfl
          all_goals first | (exact fun _ => .of ⟨rfl, rfl, trivial⟩) | (exact fun _ => .nil) | (intro h_; cases h_)
        all_goals first | (exact fun _ => .of ⟨rfl, rfl, trivial⟩) | (exact fun _ => .nil) | (intro h_; cases h_)
      · exfalso; omega
      · exfalso; omega
      · exfalso; omega
      · -- the end
        have hz : t.l.length = k + 1 := by omega
        refine ComesC.of rfl rfl (ls' := [_, _, _, _]) rfl rfl (.tree rfl (.froz rfl ?_ (.froz rfl ?_ (.tree rfl .nil)))) ⟨[_, _, _, _], rfl, ?_⟩
        · simp [digs]
        · simp [encTys_length]; omega
        · rw [plainT, if_pos (by assumption)]
          have : t.l.isEmpty = false := by cases hl : t.l <;> simp_all
          rw [this, encTy, hz]
          simp [digs, List.take_of_length_le, hz]
          exact ⟨rfl, List.take_of_length_le (by rw [encTys_length]; omega), rfl⟩
  · -- an enum
    have h16 := h
    refine Tri.loopL (fun i => match i with
        | 0 => ⟨[(5, .t (tInt ((0 : Nat) : Int))), (3, .ptr 2 0), (2, .ptr 1 0), (1, .ptr 0 0)], Tryd.f12.ntmps, [(2, .obj [.t (tInt 15), .t (.sl t.nn (t.names.map tStr)), .t (.sl true []), .t (tInt 0)]), (1, .obj [.t (tInt 0), .t (.sl true []), .t (.sl true []), .t (tInt 0)]), (0, .obj [.t (.v (.int .i64 t.kind)), .t (.sl t.nn (t.names.map tStr)), .t (.sl t.nl (encTys t.l)), .t (.v (.int .i64 t.r))])], 0, 3⟩
        | k + 1 => ⟨[(5, .t (tInt ((k + 1 : Nat) : Int))), (3, .ptr 2 0), (2, .ptr 1 0), (1, .ptr 0 0)], Tryd.f12.ntmps, [(2, .obj [.t (tInt 15), .t (.sl t.nn (t.names.map tStr)), .ref 3 4 0 (k + 1) (k + 1), .t (tInt 0)]), (1, .obj [.t (tInt 0), .t (.sl true []), .t (.sl true []), .t (tInt 0)]), (0, .obj [.t (.v (.int .i64 t.kind)), .t (.sl t.nn (t.names.map tStr)), .t (.sl t.nl (encTys t.l)), .t (.v (.int .i64 t.r))]), (3, .row 4 (encTys (List.replicate (k + 1) ty0)) false)], 0, 4⟩)
      (fun i => i ≤ t.names.length) (fun i => t.names.length - i) 0 (Nat.zero_le _) ?_ ?_
    · exact Sub.less (Sub.of rfl rfl ⟨rfl, rfl, rfl, rfl, trivial⟩ ⟨rfl, rfl, rfl, trivial⟩)
    rintro (_ | k) hi
    · repeat' (first | refine Tri.seq ?_ | refine Tri.reg ?_ | refine TriL.nil ?_ | (apply U.moveT; rfl; trivial; rfl) | (apply U.load; rfl; rfl; trivial; rfl; rfl; rfl) | (apply U.fld; rfl; trivial; rfl; infer_instance; decide; rfl) | (apply U.bin; rfl; trivial; rfl; trivial; rfl; rfl) | (apply U.len; rfl; trivial; rfl) | (apply U.loadS; rfl; rfl; trivial; rfl; rfl; rfl; rfl; rfl) | (apply U.storeS; rfl; rfl; rfl; rfl; rfl; rfl; rfl; rfl) | refine Tri.skip ?_ | refine Tri.block ?_ | refine Tri.exit ?_ | refine Tri.ret ?_ | (apply U.build; rfl; rfl; rfl; rfl; rfl) | (refine Tri.cond rfl (fun h => ?_) (fun h => ?_) <;> (try simp at h) <;> (try contradiction)) | fail)
      · (apply U.litT; rfl; rfl; rfl; rfl; rfl; rfl; rfl; rfl)
        skip
        refine U.appNil rfl (SrcE.t rfl rfl) Nat.zero_lt_one (Nat.le_of_ble_eq_true rfl) (Nat.le_of_ble_eq_true rfl) rfl ?_
        repeat' (first | refine Tri.reg ?_ | refine TriL.nil ?_ | (apply U.moveT; rfl; trivial; rfl) | (apply U.assignT; rfl; trivial; rfl) | (apply U.fld; rfl; trivial; rfl; infer_instance; decide; rfl) | (apply U.add; rfl; trivial; rfl; trivial; exact fun _ => wrap_i64 (by omega) (by omega); rfl) | (apply U.store; rfl; rfl; rfl; rfl; rfl; rfl; rfl) | fail)
        exact ⟨0 + 1, by omega, by omega, Less.ren (fun b => b) rfl rfl ⟨rfl, rfl, rfl, rfl, trivial⟩ ⟨rfl, rfl, rfl, rfl, trivial⟩ rfl rfl rfl⟩
      · exfalso; omega
      · exfalso; omega
      · refine ComesC.tree rfl rfl rfl rfl ?_
        have hz : t.names = [] := by first | assumption | exact List.length_eq_zero_iff.1 (by omega)
        rw [plainT, if_neg (by omega), if_pos (by assumption), hz]; rfl
    · repeat' (first | refine Tri.seq ?_ | refine Tri.reg ?_ | refine TriL.nil ?_ | (apply U.moveT; rfl; trivial; rfl) | (apply U.load; rfl; rfl; trivial; rfl; rfl; rfl) | (apply U.fld; rfl; trivial; rfl; infer_instance; decide; rfl) | (apply U.bin; rfl; trivial; rfl; trivial; rfl; rfl) | (apply U.len; rfl; trivial; rfl) | (apply U.loadS; rfl; rfl; trivial; rfl; rfl; rfl; rfl; rfl) | (apply U.storeS; rfl; rfl; rfl; rfl; rfl; rfl; rfl; rfl) | refine Tri.skip ?_ | refine Tri.block ?_ | refine Tri.exit ?_ | refine Tri.ret ?_ | (apply U.build; rfl; rfl; rfl; rfl; rfl) | (refine Tri.cond rfl (fun h => ?_) (fun h => ?_) <;> (try simp at h) <;> (try contradiction)) | fail)
      · (apply U.litT; rfl; rfl; rfl; rfl; rfl; rfl; rfl; rfl)
        skip
        refine U.appOwn rfl rfl (by simp [encTys_length]) (by simp [encTys_length]) (SrcE.t rfl rfl) (by simp; omega) (by simp; omega) rfl ?_
        repeat' (first | refine Tri.reg ?_ | refine TriL.nil ?_ | (apply U.moveT; rfl; trivial; rfl) | (apply U.assignT; rfl; trivial; rfl) | (apply U.fld; rfl; trivial; rfl; infer_instance; decide; rfl) | (apply U.add; rfl; trivial; rfl; trivial; exact fun _ => wrap_i64 (by omega) (by omega); rfl) | (apply U.store; rfl; rfl; rfl; rfl; rfl; rfl; rfl) | fail)
        refine ⟨k + 1 + 1, by omega, by omega, ?_⟩
        refine Less.ren (fun b => if b = 3 then 4 else b) rfl rfl ⟨rfl, rfl, rfl, rfl, trivial⟩ ⟨rfl, rfl, rfl, ?_, trivial⟩ rfl rfl rfl
        rw [List.replicate_succ' (n := k + 1), encTys_app, encTys, encTys]; rfl
      · exfalso; omega
      · exfalso; omega
      · have hz : t.names.length = k + 1 := by omega
        refine ComesC.of rfl rfl (ls' := [_, _, _, _]) rfl rfl (.tree rfl (.tree rfl (.froz rfl ?_ (.tree rfl .nil)))) ⟨[_, _, _, _], rfl, ?_⟩
        · simp [encTys_length]
        · rw [plainT, if_neg (by omega), if_pos (by assumption), encTy, hz]
          have : t.names.isEmpty = false := by cases hl : t.names <;> simp_all
          rw [this]
          simp
          exact ⟨rfl, List.take_of_length_le (by rw [encTys_length]; simp), rfl⟩
  · -- an option
    (apply U.litT; rfl; rfl; rfl; rfl; rfl; rfl; rfl; rfl)
    repeat' (first | (apply U.build; rfl; rfl; rfl; rfl; rfl) | fail)
    (apply U.lit; rfl; rfl; rfl; rfl; rfl; rfl; rfl; rfl)
    repeat' (first | refine Tri.reg ?_ | refine TriL.nil ?_ | (apply U.load; rfl; rfl; trivial; rfl; rfl; rfl) | (apply U.fld; rfl; trivial; rfl; infer_instance; decide; rfl) | (apply U.storeS; rfl; rfl; rfl; rfl; rfl; rfl; rfl; rfl) | (apply U.build; rfl; rfl; rfl; rfl; rfl) | fail)
    refine U.appOwn rfl rfl rfl rfl (SrcE.t rfl (leaves_all _)) ?_ ?_ rfl ?_
    · skip
      omega
    · omega
    repeat' (first | refine Tri.seq ?_ | refine Tri.reg ?_ | refine TriL.nil ?_ | (apply U.load; rfl; rfl; trivial; rfl; rfl; rfl) | (apply U.fld; rfl; trivial; rfl; infer_instance; decide; rfl) | (apply U.bin; rfl; trivial; rfl; trivial; rfl; rfl) | (apply U.loadS; rfl; rfl; trivial; rfl; rfl; rfl; rfl; rfl) | (apply U.store; rfl; rfl; rfl; rfl; rfl; rfl; rfl) | (apply U.storeS; rfl; rfl; rfl; rfl; rfl; rfl; rfl; rfl) | refine Tri.skip ?_ | refine Tri.ret ?_ | (refine Tri.cond rfl (fun h => ?_) (fun h => ?_) <;> (try simp at h) <;> (try contradiction)) | fail)
    · exfalso; omega
    · refine ComesC.of rfl rfl (ls' := [_, _, _, _]) rfl rfl (.tree rfl (.tree rfl (.froz rfl ?_ (.tree rfl .nil)))) ⟨[_, _, _, _], rfl, ?_⟩
      · simp; omega
      · rw [plainT, if_neg (by omega), if_neg (by omega), if_pos (by assumption)]
        simp [encTy, encTys, tStr, nmNone, nmSome, ty0]
        exact List.take_of_length_le (by simp; omega)
  · (apply U.litT; rfl; rfl; rfl; rfl; rfl; rfl; rfl; rfl)
    repeat' (first | refine Tri.seq ?_ | refine Tri.reg ?_ | refine TriL.nil ?_ | (apply U.load; rfl; rfl; trivial; rfl; rfl; rfl) | (apply U.fld; rfl; trivial; rfl; infer_instance; decide; rfl) | (apply U.loadS; rfl; rfl; trivial; rfl; rfl; rfl; rfl; rfl) | (apply U.storeS; rfl; rfl; rfl; rfl; rfl; rfl; rfl; rfl) | refine Tri.ret ?_ | (apply U.build; rfl; rfl; rfl; rfl; rfl) | fail)
    refine ComesC.tree rfl rfl rfl rfl ?_
    rw [plainT, if_neg (by omega), if_neg (by omega), if_neg (by omega), if_pos h]; rfl
  · refine ComesC.tree rfl rfl rfl rfl ?_
    rw [plainT, if_neg (by omega), if_neg (by omega), if_neg (by omega), if_neg h, encTy_eta t]
end Go.Proofs.YtaplmmhkpljmkaaDoor
