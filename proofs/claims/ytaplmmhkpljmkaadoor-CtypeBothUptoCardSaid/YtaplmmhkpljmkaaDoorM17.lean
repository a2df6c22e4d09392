/- Layer 13: the core types of a row of types, as a list of the caller's own. -/
import Derived.Test.YtaplmmhkpljmkaaDoorM15
import Derived.Test.YtaplmmhkpljmkaaDoorM16
namespace Go.Proofs.YtaplmmhkpljmkaaDoor
open Go E
set_option maxRecDepth 100000
set_option maxHeartbeats 4000000
set_option linter.unusedVariables false
set_option linter.unusedSimpArgs false
attribute [local irreducible] Tri TriL TriO PO VO E.Pure DOb XOb
/-- A list that is the caller's own, unless it is nil. -/
def ownI (l : List Int) : R1 := match l with
  | [] => .t (.sl true [])
  | y :: ys => .own 1 ((y :: ys).map tInt)
theorem Comes1.retI {t : Tmp} {s : St} {b len cap : Nat} {y : Int} {ys zs : List Int} (h : evt s.tm (.tmp t) = .ref b 1 0 len cap) (hb : E.look b s.heap = some (.row 1 ((y :: ys).map tInt) false)) (hl : len = (y :: ys).length) (hz : y :: ys = zs) : Comes1 t (ownI zs) .ret s := by
  subst hz
  exact Comes1.retO h hb (by simp [hl]) (by rw [hl, List.take_of_length_le (by simp)]; rfl)
theorem row_own (l : List Ty) (n : Bool) (hb : l.length ≤ big) (hel : ∀ (i : Nat) (h : i < l.length), E.Pure Tryd.prog 14 [agTy l[i]] (.one (.t (iT (flN l[i]))))) (hrow : (rowN l).length ≤ 1000000) :
    E.Pure Tryd.prog 29 [.sl n (encTys l)] (.one (ownI (rowN l))) := by
  unfold big at hb
  have hlen := encTys_length l
  refine Pure.of1 Tryd.func29 rfl rfl (Nat.le_of_ble_eq_true rfl) rfl ?_
  repeat' (first | refine Tri.seq ?_ | refine Tri.reg ?_ | refine TriL.nil ?_ | (apply U.assignT; rfl; trivial; rfl) | refine Tri.block ?_ | fail)
  refine Tri.loopL (α := Nat × List Int) (fun a => match a.2 with
        | [] => ⟨[(4, .t (tInt a.1)), (3, .t (.sl true [])), (0, .t (.sl n (encTys l)))], Tryd.f29.ntmps, [], 0, 0⟩
        | y :: ys => ⟨[(4, .t (tInt a.1)), (3, .ref 0 1 0 (ys.length + 1) (ys.length + 1)), (0, .t (.sl n (encTys l)))], Tryd.f29.ntmps, [(0, .row 1 ((y :: ys).map tInt) false)], 0, 1⟩)
      (fun a => a.1 ≤ l.length ∧ rowN l = a.2 ++ rowN (l.drop a.1)) (fun a => l.length - a.1) (0, []) ?_ ?_ ?_
  · exact ⟨Nat.zero_le _, rfl⟩
  · exact Sub.less (Sub.of rfl rfl ⟨rfl, rfl, rfl, trivial⟩ trivial)
  · rintro ⟨i, _ | ⟨y, ys⟩⟩ ⟨hi, hr⟩
    · dsimp only at hi hr ⊢
      repeat' (first | refine Tri.seq ?_ | refine Tri.reg ?_ | refine TriL.nil ?_ | (apply U.moveT; rfl; trivial; rfl) | (apply U.assignT; rfl; trivial; rfl) | (apply U.bin; rfl; trivial; rfl; trivial; rfl; rfl) | (apply U.len; rfl; trivial; rfl) | refine Tri.skip ?_ | refine Tri.block ?_ | refine Tri.exit ?_ | refine Tri.ret ?_ | (refine Tri.cond rfl (fun h => ?_) (fun h => ?_) <;> (try simp at h) <;> (try contradiction)) | fail)
      · have hlt : i < l.length := by omega
        have hget := get_ty hlt
        have hel := hel i hlt
        have hd := List.drop_eq_getElem_cons hlt
        rw [hd, rowN] at hr
        have hbd := congrArg List.length hr
        simp only [List.length_append, List.length_cons, List.length_nil] at hbd
        cases hy : flN l[i] with
        | nil =>
          rw [hy] at hel hr
          repeat' (first | (apply U.loadES; rfl; rfl; trivial; rfl; rfl; rfl) | (apply U.idx; rfl; trivial; rfl; trivial; exact fun _ => (by omega); exact fun _ => (by assumption); exact fun _ => rfl; rfl) | refine U.call1 rfl rfl (by assumption) rfl ?_ | fail)
          refine U.appNil0 rfl (SrcE.t (n := true) rfl rfl) rfl ?_
          repeat' (first | refine Tri.reg ?_ | refine TriL.nil ?_ | (apply U.moveT; rfl; trivial; rfl) | (apply U.assignT; rfl; trivial; rfl) | (apply U.add; rfl; trivial; rfl; trivial; exact fun _ => wrap_i64 (by omega) (by omega); rfl) | fail)
          exact ⟨(i + 1, []), ⟨hlt, hr⟩, by dsimp only; omega, Sub.less (Sub.ofn (by decide) rfl ⟨rfl, rfl, rfl, trivial⟩ trivial rfl rfl)⟩
        | cons z zs =>
          rw [hy] at hel hr hbd
          repeat' (first | (apply U.loadES; rfl; rfl; trivial; rfl; rfl; rfl) | (apply U.idx; rfl; trivial; rfl; trivial; exact fun _ => (by omega); exact fun _ => (by assumption); exact fun _ => rfl; rfl) | refine U.call1 rfl rfl (by assumption) rfl ?_ | fail)
          refine U.appNil rfl (SrcE.t (n := false) rfl (leaves_int (z :: zs))) (by simp) (by simp at hbd ⊢; omega) (by simp at hbd ⊢; omega) rfl ?_
          repeat' (first | refine Tri.reg ?_ | refine TriL.nil ?_ | (apply U.moveT; rfl; trivial; rfl) | (apply U.assignT; rfl; trivial; rfl) | (apply U.assignR; rfl; trivial; rfl) | (apply U.add; rfl; trivial; rfl; trivial; exact fun _ => wrap_i64 (by omega) (by omega); rfl) | fail)
          refine ⟨(i + 1, z :: zs), ⟨hlt, hr⟩, by dsimp only; omega, Less.ren (fun b => if b = 0 then 0 else b) rfl rfl ⟨rfl, ?_, rfl, trivial⟩ ⟨rfl, trivial⟩ rfl rfl rfl⟩
          refine congrArg some ?_
          show PV.ref 0 1 0 _ _ = PV.ref 0 1 0 _ _
          simp
      · refine Comes1.ret rfl ?_
        have : i = l.length := by omega
        subst this
        rw [List.drop_length, rowN] at hr
        rw [hr]; rfl
    · dsimp only at hi hr ⊢
      repeat' (first | refine Tri.seq ?_ | refine Tri.reg ?_ | refine TriL.nil ?_ | (apply U.moveT; rfl; trivial; rfl) | (apply U.moveR; rfl; trivial; rfl) | (apply U.assignR; rfl; trivial; rfl) | (apply U.bin; rfl; trivial; rfl; trivial; rfl; rfl) | (apply U.len; rfl; trivial; rfl) | refine Tri.skip ?_ | refine Tri.block ?_ | refine Tri.exit ?_ | refine Tri.ret ?_ | (refine Tri.cond rfl (fun h => ?_) (fun h => ?_) <;> (try simp at h) <;> (try contradiction)) | fail)
      · have hlt : i < l.length := by omega
        have hget := get_ty hlt
        have hel := hel i hlt
        have hd := List.drop_eq_getElem_cons hlt
        rw [hd, rowN] at hr
        have hbd := congrArg List.length hr
        simp only [List.length_append, List.length_cons] at hbd
        repeat' (first | (apply U.loadES; rfl; rfl; trivial; rfl; rfl; rfl) | (apply U.idx; rfl; trivial; rfl; trivial; exact fun _ => (by omega); exact fun _ => (by assumption); exact fun _ => rfl; rfl) | refine U.call1 rfl rfl (by assumption) rfl ?_ | fail)
        refine U.appOwn rfl rfl (by simp) (by simp) (SrcE.t rfl (leaves_int _)) (by simp; omega) (by simp; omega) rfl ?_
        repeat' (first | refine Tri.reg ?_ | refine TriL.nil ?_ | (apply U.moveT; rfl; trivial; rfl) | (apply U.assignT; rfl; trivial; rfl) | (apply U.assignR; rfl; trivial; rfl) | (apply U.add; rfl; trivial; rfl; trivial; exact fun _ => wrap_i64 (by omega) (by omega); rfl) | fail)
        refine ⟨(i + 1, y :: (ys ++ flN l[i])), ⟨hlt, by rw [hr]; simp⟩, by dsimp only; omega, Less.ren (fun b => if b = 0 then 1 else b) rfl rfl ⟨rfl, ?_, rfl, trivial⟩ ⟨?_, trivial⟩ rfl rfl rfl⟩
        · refine congrArg some ?_
          show PV.ref 1 1 0 _ _ = PV.ref 1 1 0 _ _
          simp; omega
        · refine congrArg some ?_
          show Blk.row 1 _ false = Blk.row 1 _ false
          simp
      · have : i = l.length := by omega
        subst this
        rw [List.drop_length, rowN, List.append_nil] at hr
        exact Comes1.retI rfl rfl rfl hr.symm
theorem flat_own (nl : Bool) (l : List Ty) (hl : l.length ≤ 64)
    (hel : ∀ (i : Nat) (h : i < l.length), E.Pure Tryd.prog 39 [agTy l[i]] (.one (.t (iT (flN l[i]))))) (hfl : ∀ y ∈ l, (flN y).length ≤ 1000) (hrow : (rowN l).length ≤ 1000000) :
    E.Pure Tryd.prog 39 [.agg [.v (.int .i64 13), .sl true [], .sl nl (encTys l), .v (.int .i64 0)]] (.one (ownI (rowN l))) := by
  have hlen := encTys_length l
  have hpl := plain_p (.mk 13 true [] nl l 0) (show 0 ≤ 64 by decide) hl
  rw [show plainT false (.mk 13 true [] nl l 0) = .mk 13 true [] nl l 0 from rfl] at hpl
  have he : encTy (.mk 13 true [] nl l 0) = .agg [.v (.int .i64 13), .sl true [], .sl nl (encTys l), .v (.int .i64 0)] := by simp [encTy]
  rw [he] at hpl
  refine Pure.of1 Tryd.func39 rfl rfl (Nat.le_of_ble_eq_true rfl) rfl ?_
  repeat' (first | refine Tri.seq ?_ | refine Tri.reg ?_ | refine TriL.nil ?_ | (apply U.moveT; rfl; trivial; rfl) | (apply U.assignT; rfl; trivial; rfl) | (apply U.load; rfl; rfl; trivial; rfl; rfl; rfl) | (apply U.fld; rfl; trivial; rfl; infer_instance; decide; rfl) | (apply U.bin; rfl; trivial; rfl; trivial; rfl; rfl) | (apply U.len; rfl; trivial; rfl) | (apply U.loadS; rfl; rfl; trivial; rfl; rfl; rfl; rfl; rfl) | (apply U.boxA; rfl; rfl) | (apply U.storeS; rfl; rfl; rfl; rfl; rfl; rfl; rfl; rfl) | refine U.call1 rfl rfl (by assumption) rfl ?_ | refine Tri.block ?_ | (refine Tri.cond rfl (fun h => ?_) (fun h => ?_) <;> (try simp at h) <;> (try contradiction)) | fail)
  refine Tri.loopL (α := Nat × List Int) (fun a => match a.2 with
      | [] => ⟨[(30, .t (tInt a.1)), (29, .t (tInt l.length)), (28, .t (.sl nl (encTys l))), (3, .t (.sl true []))], Tryd.f39.ntmps, [], 0, 1⟩
      | y :: ys => ⟨[(30, .t (tInt a.1)), (29, .t (tInt l.length)), (28, .t (.sl nl (encTys l))), (3, .ref 0 1 0 (ys.length + 1) (ys.length + 1))], Tryd.f39.ntmps, [(0, .row 1 ((y :: ys).map tInt) false)], 0, 1⟩)
    (fun a => a.1 ≤ l.length ∧ rowN l = a.2 ++ rowN (l.drop a.1)) (fun a => l.length - a.1) (0, []) ?_ ?_ ?_
  · exact ⟨Nat.zero_le _, rfl⟩
  · refine Sub.less (Sub.of rfl rfl ⟨rfl, ?_, rfl, rfl, trivial⟩ trivial)
    rw [← hlen]; rfl
  · rintro ⟨i, _ | ⟨y, ys⟩⟩ ⟨hi, hr⟩
    · dsimp only at hi hr ⊢
      repeat' (first | refine Tri.seq ?_ | refine Tri.reg ?_ | refine TriL.nil ?_ | (apply U.moveT; rfl; trivial; rfl) | (apply U.assignT; rfl; trivial; rfl) | (apply U.bin; rfl; trivial; rfl; trivial; rfl; rfl) | refine Tri.skip ?_ | refine Tri.block ?_ | refine Tri.exit ?_ | refine Tri.ret ?_ | (refine Tri.cond rfl (fun h => ?_) (fun h => ?_) <;> (try simp at h) <;> (try contradiction)) | fail)
      · have hlt : i < l.length := by omega
        have hget := get_ty hlt
        have hel := hel i hlt
        have hd := List.drop_eq_getElem_cons hlt
        have hfl := hfl _ (List.getElem_mem hlt)
        rw [hd, rowN] at hr
        cases hy : flN l[i] with
        | nil =>
          rw [hy] at hel hr
          repeat' (first | refine Tri.reg ?_ | refine TriL.nil ?_ | (apply U.moveT; rfl; trivial; rfl) | (apply U.loadES; rfl; rfl; trivial; rfl; rfl; rfl) | (apply U.loadS; rfl; rfl; trivial; rfl; rfl; rfl; rfl; rfl) | (apply U.idx; rfl; trivial; rfl; trivial; exact fun _ => (by omega); exact fun _ => (by assumption); exact fun _ => rfl; rfl) | (apply U.alloc; rfl; rfl; rfl; rfl) | (apply U.storeS; rfl; rfl; rfl; rfl; rfl; rfl; rfl; rfl) | refine U.call1 rfl rfl (by assumption) rfl ?_ | fail)
          refine U.appNil0 rfl (SrcE.t (n := true) rfl rfl) rfl ?_
          repeat' (first | refine Tri.reg ?_ | refine TriL.nil ?_ | (apply U.moveT; rfl; trivial; rfl) | (apply U.assignT; rfl; trivial; rfl) | (apply U.add; rfl; trivial; rfl; trivial; exact fun _ => wrap_i64 (by omega) (by omega); rfl) | fail)
          exact ⟨(i + 1, []), ⟨hlt, hr⟩, by dsimp only; omega, Sub.less (Sub.ofn (by decide) rfl ⟨rfl, rfl, rfl, rfl, trivial⟩ trivial rfl rfl)⟩
        | cons z zs =>
          rw [hy] at hel hr hfl
          repeat' (first | refine Tri.reg ?_ | refine TriL.nil ?_ | (apply U.moveT; rfl; trivial; rfl) | (apply U.loadES; rfl; rfl; trivial; rfl; rfl; rfl) | (apply U.loadS; rfl; rfl; trivial; rfl; rfl; rfl; rfl; rfl) | (apply U.idx; rfl; trivial; rfl; trivial; exact fun _ => (by omega); exact fun _ => (by assumption); exact fun _ => rfl; rfl) | (apply U.alloc; rfl; rfl; rfl; rfl) | (apply U.storeS; rfl; rfl; rfl; rfl; rfl; rfl; rfl; rfl) | refine U.call1 rfl rfl (by assumption) rfl ?_ | fail)
          refine U.appNil rfl (SrcE.t (n := false) rfl (leaves_int (z :: zs))) (by simp) (by simp at hfl ⊢; omega) (by simp at hfl ⊢; omega) rfl ?_
          repeat' (first | refine Tri.reg ?_ | refine TriL.nil ?_ | (apply U.moveT; rfl; trivial; rfl) | (apply U.assignR; rfl; trivial; rfl) | (apply U.add; rfl; trivial; rfl; trivial; exact fun _ => wrap_i64 (by omega) (by omega); rfl) | fail)
          refine ⟨(i + 1, z :: zs), ⟨hlt, hr⟩, by dsimp only; omega, Less.ren (fun b => if b = 0 then 2 else b) rfl rfl ⟨rfl, rfl, rfl, ?_, trivial⟩ ⟨rfl, trivial⟩ rfl rfl rfl⟩
          refine congrArg some ?_
          show PV.ref 2 1 0 _ _ = PV.ref 2 1 0 _ _
          simp
      · refine Comes1.ret rfl ?_
        have : i = l.length := by omega
        subst this
        rw [List.drop_length, rowN] at hr
        rw [hr]; rfl
    · dsimp only at hi hr ⊢
      repeat' (first | refine Tri.seq ?_ | refine Tri.reg ?_ | refine TriL.nil ?_ | (apply U.moveR; rfl; trivial; rfl) | (apply U.assignR; rfl; trivial; rfl) | (apply U.bin; rfl; trivial; rfl; trivial; rfl; rfl) | refine Tri.skip ?_ | refine Tri.block ?_ | refine Tri.exit ?_ | refine Tri.ret ?_ | (refine Tri.cond rfl (fun h => ?_) (fun h => ?_) <;> (try simp at h) <;> (try contradiction)) | fail)
      · have hlt : i < l.length := by omega
        have hget := get_ty hlt
        have hel := hel i hlt
        have hd := List.drop_eq_getElem_cons hlt
        have hfl := hfl _ (List.getElem_mem hlt)
        rw [hd, rowN] at hr
        have hbd := congrArg List.length hr
        simp only [List.length_append, List.length_cons] at hbd
        repeat' (first | refine Tri.reg ?_ | refine TriL.nil ?_ | (apply U.moveR; rfl; trivial; rfl) | (apply U.loadES; rfl; rfl; trivial; rfl; rfl; rfl) | (apply U.loadS; rfl; rfl; trivial; rfl; rfl; rfl; rfl; rfl) | (apply U.idx; rfl; trivial; rfl; trivial; exact fun _ => (by omega); exact fun _ => (by assumption); exact fun _ => rfl; rfl) | (apply U.alloc; rfl; rfl; rfl; rfl) | (apply U.storeS; rfl; rfl; rfl; rfl; rfl; rfl; rfl; rfl) | refine U.call1 rfl rfl (by assumption) rfl ?_ | fail)
        refine U.appOwn rfl rfl (by simp) (by simp) (SrcE.t rfl (leaves_int _)) (by simp; omega) (by simp; omega) rfl ?_
        repeat' (first | refine Tri.reg ?_ | refine TriL.nil ?_ | (apply U.moveT; rfl; trivial; rfl) | (apply U.assignR; rfl; trivial; rfl) | (apply U.add; rfl; trivial; rfl; trivial; exact fun _ => wrap_i64 (by omega) (by omega); rfl) | fail)
        refine ⟨(i + 1, y :: (ys ++ flN l[i])), ⟨hlt, by rw [hr]; simp⟩, by dsimp only; omega, Less.ren (fun b => if b = 0 then 2 else b) rfl rfl ⟨rfl, rfl, rfl, ?_, trivial⟩ ⟨?_, trivial⟩ rfl rfl rfl⟩
        · refine congrArg some ?_
          show PV.ref 2 1 0 _ _ = PV.ref 2 1 0 _ _
          simp; omega
        · refine congrArg some ?_
          show Blk.row 1 _ false = Blk.row 1 _ false
          simp
      · have : i = l.length := by omega
        subst this
        rw [List.drop_length, rowN, List.append_nil] at hr
        exact Comes1.retI rfl rfl rfl hr.symm
/-- What is known of a function's type that may be. -/
structure SgOk (s : Sg) : Prop where
  t : s.t.length ≤ 64
  el : ∀ x ∈ s.t, Vd x ∧ (x.kind ≠ 0 → partsN x ≤ 500)
  r : Vd s.r ∧ (s.r.kind ≠ 0 → partsN s.r ≤ 500)
theorem mayAll_mem : ∀ {l : List Ty}, mayAll l = true → ∀ x ∈ l, mayB x = true
  | t :: ts, h, x, hx => by
    simp only [mayAll, Bool.and_eq_true] at h
    rcases List.mem_cons.1 hx with rfl | hx
    · exact h.1
    · exact mayAll_mem h.2 x hx
theorem maySg_ok {s : Sg} (h : maySgB s = true) : SgOk s := by
  simp only [maySgB, Bool.and_eq_true, Bool.or_eq_true, decide_eq_true_eq, namesB_iff] at h
  obtain ⟨⟨⟨h1, h2⟩, h3⟩, h4⟩ := h
  refine ⟨by rcases h2 with h | h <;> omega, fun x hx => may_vd (mayAll_mem h4 x hx), ?_⟩
  rcases h3 with h | h
  · exact ⟨.inl h, fun hk => absurd (noneT_spec h).1 hk⟩
  · exact may_vd h
theorem rowN_bd : ∀ (l : List Ty), (∀ x ∈ l, (flN x).length ≤ 1000) → (rowN l).length ≤ 1000 * l.length
  | [], _ => by simp [rowN]
  | t :: ts, h => by
    have h1 := h t List.mem_cons_self
    have h2 := rowN_bd ts fun x hx => h x (List.mem_cons_of_mem _ hx)
    simp [rowN]; omega
theorem SgOk.row {s : Sg} (h : SgOk s) : (rowN s.t).length ≤ 64000 := by
  have := rowN_bd s.t fun x hx => len_fl (h.el x hx).2
  have := h.t
  omega
theorem args_p (HN : LexName) (s : Sg) (hs : smallSg s) : E.Pure Tryd.prog 28 [encSg s] (.one (ownI (if maySgB s then rowN s.t else []))) := by
  have hc := checkSig_p HN s hs
  rw [encSg_eta] at *
  cases hm : maySgB s with
  | false =>
    simp only [hm] at hc ⊢
    refine Pure.of1 Tryd.func28 rfl rfl (Nat.le_of_ble_eq_true rfl) rfl ?_
    repeat' (first | refine Tri.seq ?_ | refine Tri.reg ?_ | refine TriL.nil ?_ | (apply U.assignT; rfl; trivial; rfl) | (apply U.bin; rfl; trivial; rfl; trivial; rfl; rfl) | (apply U.loadS; rfl; rfl; trivial; rfl; rfl; rfl; rfl; rfl) | (apply U.boxA; rfl; rfl) | refine U.call1 rfl rfl (by assumption) rfl ?_ | refine Tri.ret ?_ | (refine Tri.cond rfl (fun h => ?_) (fun h => ?_) <;> (try simp at h) <;> (try contradiction)) | fail)
    exact Comes1.ret rfl rfl
  | true =>
    simp only [hm] at hc ⊢
    have ho := maySg_ok hm
    have hf := flat_own s.nt s.t ho.t (fun i hi => by
      have := flat_p _ s.t[i] (Nat.le_refl _) (ho.el _ (List.getElem_mem hi)).1 (ho.el _ (List.getElem_mem hi)).2
      rwa [encTy_eta] at this) (fun y hy => len_fl (ho.el y hy).2) (by have := ho.row; omega)
    refine Pure.of1 Tryd.func28 rfl rfl (Nat.le_of_ble_eq_true rfl) rfl ?_
    cases hr : rowN s.t with
    | nil =>
      rw [hr] at hf
      repeat' (first | refine Tri.seq ?_ | refine Tri.reg ?_ | refine TriL.nil ?_ | (apply U.assignT; rfl; trivial; rfl) | (apply U.load; rfl; rfl; trivial; rfl; rfl; rfl) | (apply U.fld; rfl; trivial; rfl; infer_instance; decide; rfl) | (apply U.bin; rfl; trivial; rfl; trivial; rfl; rfl) | (apply U.loadS; rfl; rfl; trivial; rfl; rfl; rfl; rfl; rfl) | (apply U.boxA; rfl; rfl) | refine U.call1 rfl rfl (by assumption) rfl ?_ | refine Tri.skip ?_ | refine Tri.ret ?_ | (apply U.build; rfl; rfl; rfl; rfl; rfl) | (refine Tri.cond rfl (fun h => ?_) (fun h => ?_) <;> (try simp at h) <;> (try contradiction)) | fail)
      exact Comes1.ret rfl rfl
    | cons y ys =>
      rw [hr] at hf
      repeat' (first | refine Tri.seq ?_ | refine Tri.reg ?_ | refine TriL.nil ?_ | (apply U.assignT; rfl; trivial; rfl) | (apply U.load; rfl; rfl; trivial; rfl; rfl; rfl) | (apply U.fld; rfl; trivial; rfl; infer_instance; decide; rfl) | (apply U.bin; rfl; trivial; rfl; trivial; rfl; rfl) | (apply U.loadS; rfl; rfl; trivial; rfl; rfl; rfl; rfl; rfl) | (apply U.boxA; rfl; rfl) | refine U.call1 rfl rfl (by assumption) rfl ?_ | refine Tri.skip ?_ | (apply U.build; rfl; rfl; rfl; rfl; rfl) | (refine Tri.cond rfl (fun h => ?_) (fun h => ?_) <;> (try simp at h) <;> (try contradiction)) | fail)
      refine U.callO1 rfl rfl hf rfl ?_
      repeat' (first | refine TriL.nil ?_ | (apply U.assignR; rfl; trivial; rfl) | refine Tri.ret ?_ | fail)
      exact Comes1.retI rfl rfl (by simp) rfl
end Go.Proofs.YtaplmmhkpljmkaaDoor

/- Layer 13: the core type of a function, by the code. -/
namespace Go.Proofs.YtaplmmhkpljmkaaDoor
open Go E
set_option maxRecDepth 100000
set_option maxHeartbeats 4000000
set_option linter.unusedVariables false
set_option linter.unusedSimpArgs false
attribute [local irreducible] Tri TriL TriO PO VO E.Pure DOb XOb
/-- The core type: what is taken, what is given. -/
def coreP (s : Sg) (lower : Bool) : List Int :=
  let p := if 16 < (rowN s.t).length then [127] else rowN s.t
  if (flN s.r).length ≤ 1 then p else if lower then p ++ [127] else p
def coreR (s : Sg) (lower : Bool) : List Int :=
  if (flN s.r).length ≤ 1 then flN s.r else if lower then [] else [127]
def coreT (s : Sg) (lower : Bool) : T := if maySgB s then .agg [iT (coreP s lower), iT (coreR s lower)] else .agg [iT [], iT []]
theorem coreR_1 {s : Sg} {lower : Bool} (h : (flN s.r).length ≤ 1) : coreR s lower = flN s.r := by unfold coreR; rw [if_pos h]
theorem coreR_t {s : Sg} {lower : Bool} (h : ¬ (flN s.r).length ≤ 1) (hl : lower = true) : coreR s lower = [] := by unfold coreR; rw [if_neg h, if_pos hl]
theorem coreR_f {s : Sg} {lower : Bool} (h : ¬ (flN s.r).length ≤ 1) (hl : lower = false) : coreR s lower = [127] := by unfold coreR; rw [if_neg h, if_neg (by simp [hl])]
def coreQ (s : Sg) : List Int := if 16 < (rowN s.t).length then [127] else rowN s.t
theorem coreP_1 {s : Sg} {lower : Bool} (h : (flN s.r).length ≤ 1) : coreP s lower = coreQ s := by unfold coreP; exact if_pos h
theorem coreP_t {s : Sg} {lower : Bool} (h : ¬ (flN s.r).length ≤ 1) (hl : lower = true) : coreP s lower = coreQ s ++ [127] := by unfold coreP; exact (if_neg h).trans (if_pos hl)
theorem coreP_f {s : Sg} {lower : Bool} (h : ¬ (flN s.r).length ≤ 1) (hl : lower = false) : coreP s lower = coreQ s := by unfold coreP; exact (if_neg h).trans (if_neg (by simp [hl]))
theorem coreQ_big {s : Sg} (h : 16 < (rowN s.t).length) : coreQ s = [127] := if_pos h
theorem coreQ_sm {s : Sg} (h : ¬ 16 < (rowN s.t).length) : coreQ s = rowN s.t := if_neg h
/-- A struct of two lists that the caller's own. -/
theorem core_end {s : St} {u : Tmp} {b k : Nat} {xs : List Int} {z : T} {p : T} {e : Ex} {t : Tmp} {b1 c : Nat} (he : e = .normal ∨ e = .ret) (h1 : s.ev (.tmp t) = .ptr b1 0) (h2 : E.look b1 s.heap = some (.obj [.ref b 1 0 k c, .t z])) (h3 : (s.ev (.tmp u)).toT = some p)
    (h4 : E.look b s.heap = some (.row 1 (xs.map tInt) false)) (hk : k = xs.length) (hx : xs ≠ []) : ComesCT t u 2 (.agg [iT xs, z]) p e s := by
  refine ComesCT.trees he h1 h2 rfl h3 ?_
  have : iT xs = .sl false (((xs.map tInt).drop 0).take k) := by
    rw [hk, List.drop_zero, List.take_of_length_le (by simp), iT_ne hx]
  rw [this]
  exact .froz h4 (by simp [hk]) (.tree rfl .nil)
theorem core_p (HN : LexName) (s : Sg) (lower : Bool) (hs : smallSg s) : E.Pure Tryd.prog 25 [encSg s, tBool lower] (.tup [.t (coreT s lower), .t (tInt (if maySgB s then 0 else 1))]) := by
  have hc := checkSig_p HN s hs
  have ha := args_p HN s hs
  unfold coreT
  rw [encSg_eta] at *
  cases hm : maySgB s with
  | false =>
    simp only [hm, Bool.false_eq_true, if_false] at hc ⊢
    refine Pure.ofCT rfl Tryd.func25 rfl rfl (Nat.le_of_ble_eq_true rfl) rfl ?_
    repeat' (first | refine Tri.seq ?_ | refine Tri.reg ?_ | refine TriL.nil ?_ | (apply U.moveT; rfl; trivial; rfl) | (apply U.assignT; rfl; trivial; rfl) | (apply U.bin; rfl; trivial; rfl; trivial; rfl; rfl) | (apply U.loadS; rfl; rfl; trivial; rfl; rfl; rfl; rfl; rfl) | (apply U.boxA; rfl; rfl) | (apply U.alloc; rfl; rfl; rfl; rfl) | (apply U.storeS; rfl; rfl; rfl; rfl; rfl; rfl; rfl; rfl) | refine U.call1 rfl rfl (by assumption) rfl ?_ | refine Tri.ret ?_ | (apply U.build; rfl; rfl; rfl; rfl; rfl) | (refine Tri.cond rfl (fun h => ?_) (fun h => ?_) <;> (try simp at h) <;> (try contradiction)) | fail)
    exact ComesCT.trees (.inr rfl) rfl rfl rfl rfl (.tree rfl (.tree rfl .nil))
  | true =>
    simp only [hm, if_true] at hc ha ⊢
    have ho := maySg_ok hm
    have hf := flat_p _ s.r (Nat.le_refl _) ho.r.1 ho.r.2
    rw [encTy_eta] at hf
    refine Pure.ofCT rfl Tryd.func25 rfl rfl (Nat.le_of_ble_eq_true rfl) rfl ?_
    cases hr : rowN s.t with
    | nil =>
      rw [hr] at ha
      have ha : E.Pure Tryd.prog 28 [agSg s] (.one (.t (.sl true []))) := ha
      repeat' (first | refine Tri.seq ?_ | refine Tri.reg ?_ | refine TriL.nil ?_ | (apply U.moveT; rfl; trivial; rfl) | (apply U.assignT; rfl; trivial; rfl) | (apply U.bin; rfl; trivial; rfl; trivial; rfl; rfl) | (apply U.loadS; rfl; rfl; trivial; rfl; rfl; rfl; rfl; rfl) | (apply U.boxA; rfl; rfl) | (apply U.alloc; rfl; rfl; rfl; rfl) | refine U.call1 rfl rfl (by assumption) rfl ?_ | refine Tri.skip ?_ | (refine Tri.cond rfl (fun h => ?_) (fun h => ?_) <;> (try simp at h) <;> (try contradiction)) | fail)
      refine Tri.midA ⟨[(7, .ptr 2 0), (1, .t (tBool lower)), (4, .ptr 1 0)], Tryd.f25.ntmps, [(2, .obj [.t (.sl true []), .t (iT (flN s.r))]), (1, .obj [.t (.sl true []), .t (.sl true [])])], 0, 3⟩ ?_ ?_
      · refine Tri.regX mixed (by kernel_rfl) rfl rfl ?_
        repeat' (first | refine TriL.nil ?_ | exact Yes.mk rfl | refine X.nil ?_ | (apply X.s; rfl) | (apply X.alloc; rfl; rfl; rfl; rfl) | (apply X.a; rfl) | exact ⟨rfl, rfl, rfl⟩ | (apply U.fld; rfl; trivial; rfl; infer_instance; decide; rfl) | (apply U.loadS; rfl; rfl; trivial; rfl; rfl; rfl; rfl; rfl) | (apply U.storeS; rfl; rfl; rfl; rfl; rfl; rfl; rfl; rfl) | refine U.call1 rfl rfl (by assumption) rfl ?_ | (apply U.build; rfl; rfl; rfl; rfl; rfl) | exact ⟨rfl, rfl⟩ | fail)
        exact Sub.of rfl rfl ⟨rfl, rfl, rfl, trivial⟩ ⟨rfl, rfl, trivial⟩
      · have hq : coreQ s = [] := by rw [coreQ_sm (by simp [hr]), hr]
        repeat' (first | refine Tri.seq ?_ | refine Tri.reg ?_ | refine TriL.nil ?_ | (apply U.moveT; rfl; trivial; rfl) | (apply U.assignT; rfl; trivial; rfl) | (apply U.load; rfl; rfl; trivial; rfl; rfl; rfl) | (apply U.fld; rfl; trivial; rfl; infer_instance; decide; rfl) | (apply U.bin; rfl; trivial; rfl; trivial; rfl; rfl) | (apply U.len; rfl; trivial; rfl) | (apply U.loadS; rfl; rfl; trivial; rfl; rfl; rfl; rfl; rfl) | (apply U.storeS; rfl; rfl; rfl; rfl; rfl; rfl; rfl; rfl) | refine Tri.skip ?_ | refine Tri.block ?_ | refine Tri.ret ?_ | (refine Tri.cond rfl (fun h => ?_) (fun h => ?_) <;> (try simp at h) <;> (try contradiction)) | fail)
        · have hl : (flN s.r).length ≤ 1 := by omega
          rw [coreP_1 hl, coreR_1 hl, hq]
          exact ComesCT.trees (.inr rfl) rfl rfl rfl rfl (.tree rfl (.tree rfl .nil))
        · have hl : ¬ (flN s.r).length ≤ 1 := by omega
          (apply U.litT; rfl; rfl; rfl; rfl; rfl; rfl; rfl; rfl)
          skip
          refine U.appNil rfl (SrcE.t (n := false) rfl rfl) (by simp) (by simp) (by simp) rfl ?_
          repeat' (first | refine Tri.seq ?_ | refine Tri.reg ?_ | refine TriL.nil ?_ | (apply U.assignT; rfl; trivial; rfl) | (apply U.fld; rfl; trivial; rfl; infer_instance; decide; rfl) | (apply U.loadS; rfl; rfl; trivial; rfl; rfl; rfl; rfl; rfl) | (apply U.store; rfl; rfl; rfl; rfl; rfl; rfl; rfl) | (apply U.storeS; rfl; rfl; rfl; rfl; rfl; rfl; rfl; rfl) | refine Tri.ret ?_ | fail)
          rw [coreP_t hl h, coreR_t hl h, hq]
          exact core_end (xs := [127]) (.inr rfl) rfl rfl rfl rfl rfl (by simp)
        · have hl : ¬ (flN s.r).length ≤ 1 := by omega
          (apply U.litT; rfl; rfl; rfl; rfl; rfl; rfl; rfl; rfl)
          repeat' (first | refine Tri.seq ?_ | refine Tri.reg ?_ | refine TriL.nil ?_ | (apply U.assignT; rfl; trivial; rfl) | (apply U.fld; rfl; trivial; rfl; infer_instance; decide; rfl) | (apply U.loadS; rfl; rfl; trivial; rfl; rfl; rfl; rfl; rfl) | (apply U.store; rfl; rfl; rfl; rfl; rfl; rfl; rfl) | (apply U.storeS; rfl; rfl; rfl; rfl; rfl; rfl; rfl; rfl) | refine Tri.ret ?_ | fail)
          rw [coreP_f hl h, coreR_f hl h, hq]
          exact ComesCT.trees (.inr rfl) rfl rfl rfl rfl (.tree rfl (.tree rfl .nil))
    | cons y ys =>
      rw [hr] at ha
      have ha : E.Pure Tryd.prog 28 [agSg s] (.one (.own 1 ((y :: ys).map tInt))) := ha
      repeat' (first | refine Tri.seq ?_ | refine Tri.reg ?_ | refine TriL.nil ?_ | (apply U.moveT; rfl; trivial; rfl) | (apply U.assignT; rfl; trivial; rfl) | (apply U.bin; rfl; trivial; rfl; trivial; rfl; rfl) | (apply U.loadS; rfl; rfl; trivial; rfl; rfl; rfl; rfl; rfl) | (apply U.boxA; rfl; rfl) | (apply U.alloc; rfl; rfl; rfl; rfl) | refine U.call1 rfl rfl (by assumption) rfl ?_ | refine Tri.skip ?_ | (refine Tri.cond rfl (fun h => ?_) (fun h => ?_) <;> (try simp at h) <;> (try contradiction)) | fail)
      refine Tri.midA ⟨[(7, .ptr 3 0), (1, .t (tBool lower)), (4, .ptr 1 0)], Tryd.f25.ntmps, [(3, .obj [.ref 2 1 0 (ys.length + 1) (ys.length + 1), .t (iT (flN s.r))]), (2, .row 1 ((y :: ys).map tInt) false), (1, .obj [.t (.sl true []), .t (.sl true [])])], 0, 4⟩ ?_ ?_
      · refine Tri.regX mixed (by kernel_rfl) rfl rfl ?_
        repeat' (first | refine TriL.nil ?_ | exact Yes.mk rfl | refine X.nil ?_ | (apply X.s; rfl) | (apply X.alloc; rfl; rfl; rfl; rfl) | refine X.callO1 rfl rfl (by assumption) rfl (Yes.mk rfl) ?_ | (apply X.a; rfl) | exact ⟨rfl, rfl, rfl⟩ | (apply U.fld; rfl; trivial; rfl; infer_instance; decide; rfl) | (apply U.loadS; rfl; rfl; trivial; rfl; rfl; rfl; rfl; rfl) | (apply U.storeS; rfl; rfl; rfl; rfl; rfl; rfl; rfl; rfl) | refine U.call1 rfl rfl (by assumption) rfl ?_ | (apply U.build; rfl; rfl; rfl; rfl; rfl) | exact ⟨rfl, rfl⟩ | fail)
        all_goals (refine Sub.of rfl rfl ⟨rfl, rfl, rfl, trivial⟩ ⟨?_, rfl, rfl, trivial⟩)
        all_goals (refine congrArg some ?_)
        all_goals (show Blk.obj [PV.ref 2 1 0 _ _, _] = Blk.obj [PV.ref 2 1 0 _ _, _])
        all_goals simp
      · repeat' (first | refine Tri.seq ?_ | refine Tri.reg ?_ | refine TriL.nil ?_ | (apply U.moveT; rfl; trivial; rfl) | (apply U.assignT; rfl; trivial; rfl) | (apply U.load; rfl; rfl; trivial; rfl; rfl; rfl) | (apply U.fld; rfl; trivial; rfl; infer_instance; decide; rfl) | (apply U.bin; rfl; trivial; rfl; trivial; rfl; rfl) | (apply U.len; rfl; trivial; rfl) | (apply U.lenR; rfl; trivial; rfl) | (apply U.loadS; rfl; rfl; trivial; rfl; rfl; rfl; rfl; rfl) | (apply U.storeS; rfl; rfl; rfl; rfl; rfl; rfl; rfl; rfl) | refine Tri.skip ?_ | refine Tri.block ?_ | refine Tri.ret ?_ | (refine Tri.cond rfl (fun h => ?_) (fun h => ?_) <;> (try simp at h) <;> (try contradiction)) | fail)
        · have hq : coreQ s = [127] := coreQ_big (by rw [hr]; simp; omega)
          (apply U.lit; rfl; rfl; rfl; rfl; rfl; rfl; rfl; rfl)
          repeat' (first | refine Tri.seq ?_ | refine Tri.reg ?_ | refine TriL.nil ?_ | (apply U.moveT; rfl; trivial; rfl) | (apply U.assignT; rfl; trivial; rfl) | (apply U.load; rfl; rfl; trivial; rfl; rfl; rfl) | (apply U.fld; rfl; trivial; rfl; infer_instance; decide; rfl) | (apply U.bin; rfl; trivial; rfl; trivial; rfl; rfl) | (apply U.len; rfl; trivial; rfl) | (apply U.loadS; rfl; rfl; trivial; rfl; rfl; rfl; rfl; rfl) | (apply U.store; rfl; rfl; rfl; rfl; rfl; rfl; rfl) | (apply U.storeS; rfl; rfl; rfl; rfl; rfl; rfl; rfl; rfl) | refine Tri.skip ?_ | refine Tri.block ?_ | refine Tri.ret ?_ | (refine Tri.cond rfl (fun h => ?_) (fun h => ?_) <;> (try simp at h) <;> (try contradiction)) | fail)
          · have hl : (flN s.r).length ≤ 1 := by omega
            rw [coreP_1 hl, coreR_1 hl, hq]
            exact core_end (xs := [127]) (.inr rfl) rfl rfl rfl rfl rfl (by simp)
          · have hl : ¬ (flN s.r).length ≤ 1 := by omega
            (apply U.litT; rfl; rfl; rfl; rfl; rfl; rfl; rfl; rfl)
            skip
            refine U.appOwn rfl rfl (by simp) (by simp) (SrcE.t (n := false) rfl rfl) (by simp) (by simp) rfl ?_
            repeat' (first | refine Tri.seq ?_ | refine Tri.reg ?_ | refine TriL.nil ?_ | (apply U.assignT; rfl; trivial; rfl) | (apply U.fld; rfl; trivial; rfl; infer_instance; decide; rfl) | (apply U.loadS; rfl; rfl; trivial; rfl; rfl; rfl; rfl; rfl) | (apply U.store; rfl; rfl; rfl; rfl; rfl; rfl; rfl) | (apply U.storeS; rfl; rfl; rfl; rfl; rfl; rfl; rfl; rfl) | refine Tri.ret ?_ | fail)
            rw [coreP_t hl h, coreR_t hl h, hq]
            exact core_end (xs := [127, 127]) (.inr rfl) rfl rfl rfl rfl rfl (by simp)
          · have hl : ¬ (flN s.r).length ≤ 1 := by omega
            (apply U.litT; rfl; rfl; rfl; rfl; rfl; rfl; rfl; rfl)
            repeat' (first | refine Tri.seq ?_ | refine Tri.reg ?_ | refine TriL.nil ?_ | (apply U.assignT; rfl; trivial; rfl) | (apply U.fld; rfl; trivial; rfl; infer_instance; decide; rfl) | (apply U.loadS; rfl; rfl; trivial; rfl; rfl; rfl; rfl; rfl) | (apply U.store; rfl; rfl; rfl; rfl; rfl; rfl; rfl) | (apply U.storeS; rfl; rfl; rfl; rfl; rfl; rfl; rfl; rfl) | refine Tri.ret ?_ | fail)
            rw [coreP_f hl h, coreR_f hl h, hq]
            exact core_end (xs := [127]) (.inr rfl) rfl rfl rfl rfl rfl (by simp)
        all_goals (have hq : coreQ s = y :: ys := by rw [coreQ_sm (by rw [hr]; simp; omega), hr])
        · have hl : (flN s.r).length ≤ 1 := by omega
          rw [coreP_1 hl, coreR_1 hl, hq]
          exact core_end (xs := y :: ys) (.inr rfl) rfl rfl rfl rfl rfl (by simp)
        · have hl : ¬ (flN s.r).length ≤ 1 := by omega
          (apply U.litT; rfl; rfl; rfl; rfl; rfl; rfl; rfl; rfl)
          skip
          refine U.appOwn rfl rfl (by simp) (by simp) (SrcE.t (n := false) rfl rfl) (by simp; omega) (by simp; omega) rfl ?_
          repeat' (first | refine Tri.seq ?_ | refine Tri.reg ?_ | refine TriL.nil ?_ | (apply U.assignT; rfl; trivial; rfl) | (apply U.fld; rfl; trivial; rfl; infer_instance; decide; rfl) | (apply U.loadS; rfl; rfl; trivial; rfl; rfl; rfl; rfl; rfl) | (apply U.store; rfl; rfl; rfl; rfl; rfl; rfl; rfl) | (apply U.storeS; rfl; rfl; rfl; rfl; rfl; rfl; rfl; rfl) | refine Tri.ret ?_ | fail)
          rw [coreP_t hl h, coreR_t hl h, hq]
          exact core_end (xs := y :: ys ++ [127]) (.inr rfl) rfl rfl rfl (by simp; rfl) (by simp) (by simp)
        · have hl : ¬ (flN s.r).length ≤ 1 := by omega
          (apply U.litT; rfl; rfl; rfl; rfl; rfl; rfl; rfl; rfl)
          repeat' (first | refine Tri.seq ?_ | refine Tri.reg ?_ | refine TriL.nil ?_ | (apply U.assignT; rfl; trivial; rfl) | (apply U.fld; rfl; trivial; rfl; infer_instance; decide; rfl) | (apply U.loadS; rfl; rfl; trivial; rfl; rfl; rfl; rfl; rfl) | (apply U.store; rfl; rfl; rfl; rfl; rfl; rfl; rfl) | (apply U.storeS; rfl; rfl; rfl; rfl; rfl; rfl; rfl; rfl) | refine Tri.ret ?_ | fail)
          rw [coreP_f hl h, coreR_f hl h, hq]
          exact core_end (xs := y :: ys) (.inr rfl) rfl rfl rfl rfl rfl (by simp)
end Go.Proofs.YtaplmmhkpljmkaaDoor

/- Layer 13: the core type of a function, by the reference; the same types. -/
namespace Go.Proofs.YtaplmmhkpljmkaaDoor
open Go E
set_option maxRecDepth 100000
set_option maxHeartbeats 4000000
set_option linter.unusedVariables false
set_option linter.unusedSimpArgs false
attribute [local irreducible] Tri TriL TriO PO VO E.Pure DOb XOb
theorem coreRef_p (s : Sg) (lower : Bool) (hs : smallSg s) : E.Pure Tryd.prog 26 [encSg s, tBool lower] (.tup [.t (coreT s lower), .t (tInt (if maySgB s then 0 else 1))]) := by
  have hc := maySig_p s hs
  unfold coreT
  rw [encSg_eta] at *
  cases hm : maySgB s with
  | false =>
    simp only [hm, Bool.false_eq_true, if_false] at hc ⊢
    refine Pure.ofCT rfl Tryd.func26 rfl rfl (Nat.le_of_ble_eq_true rfl) rfl ?_
    repeat' (first | refine Tri.seq ?_ | refine Tri.reg ?_ | refine TriL.nil ?_ | (apply U.assignT; rfl; trivial; rfl) | (apply U.loadS; rfl; rfl; trivial; rfl; rfl; rfl; rfl; rfl) | (apply U.not; rfl; trivial; rfl) | (apply U.boxA; rfl; rfl) | (apply U.alloc; rfl; rfl; rfl; rfl) | (apply U.storeS; rfl; rfl; rfl; rfl; rfl; rfl; rfl; rfl) | refine U.call1 rfl rfl (by assumption) rfl ?_ | refine Tri.ret ?_ | (apply U.build; rfl; rfl; rfl; rfl; rfl) | (refine Tri.cond rfl (fun h => ?_) (fun h => ?_) <;> (try simp at h) <;> (try contradiction)) | fail)
    exact ComesCT.trees (.inr rfl) rfl rfl rfl rfl (.tree rfl (.tree rfl .nil))
  | true =>
    simp only [hm, if_true] at hc ⊢
    have ho := maySg_ok hm
    have ha := row_own s.t s.nt (by have := ho.t; unfold big; omega) (fun i hi => by
      have := cores_p _ s.t[i] (Nat.le_refl _) ((ho.el _ (List.getElem_mem hi)).1.gd (ho.el _ (List.getElem_mem hi)).2)
      rwa [encTy_eta] at this) (by have := ho.row; omega)
    have hf := cores_p _ s.r (Nat.le_refl _) (ho.r.1.gd ho.r.2)
    rw [encTy_eta] at hf
    refine Pure.ofCT rfl Tryd.func26 rfl rfl (Nat.le_of_ble_eq_true rfl) rfl ?_
    cases hr : rowN s.t with
    | nil =>
      rw [hr] at ha
      have ha : E.Pure Tryd.prog 29 [.sl s.nt (encTys s.t)] (.one (.t (.sl true []))) := ha
      have hq : coreQ s = [] := by rw [coreQ_sm (by simp [hr]), hr]
      repeat' (first | refine Tri.seq ?_ | refine Tri.reg ?_ | refine TriL.nil ?_ | (apply U.assignT; rfl; trivial; rfl) | (apply U.loadS; rfl; rfl; trivial; rfl; rfl; rfl; rfl; rfl) | (apply U.not; rfl; trivial; rfl) | (apply U.boxA; rfl; rfl) | (apply U.alloc; rfl; rfl; rfl; rfl) | refine U.call1 rfl rfl (by assumption) rfl ?_ | refine Tri.skip ?_ | (refine Tri.cond rfl (fun h => ?_) (fun h => ?_) <;> (try simp at h) <;> (try contradiction)) | fail)
      refine Tri.midA ⟨[(7, .t (iT (flN s.r))), (6, .t (.sl true [])), (1, .t (tBool lower)), (4, .ptr 1 0)], Tryd.f26.ntmps, [(1, .obj [.t (.sl true []), .t (.sl true [])])], 0, 2⟩ ?_ ?_
      · refine Tri.regX mixed (by kernel_rfl) rfl rfl ?_
        repeat' (first | refine TriL.nil ?_ | exact Yes.mk rfl | refine X.nil ?_ | (apply X.a; rfl) | exact ⟨rfl, rfl, rfl⟩ | (apply U.assignT; rfl; trivial; rfl) | (apply U.load; rfl; rfl; trivial; rfl; rfl; rfl) | (apply U.fld; rfl; trivial; rfl; infer_instance; decide; rfl) | (apply U.loadS; rfl; rfl; trivial; rfl; rfl; rfl; rfl; rfl) | refine U.call1 rfl rfl (by assumption) rfl ?_ | fail)
        exact Sub.of rfl rfl ⟨rfl, rfl, rfl, rfl, trivial⟩ ⟨rfl, trivial⟩
      · repeat' (first | refine Tri.seq ?_ | refine Tri.reg ?_ | refine TriL.nil ?_ | (apply U.moveT; rfl; trivial; rfl) | (apply U.assignT; rfl; trivial; rfl) | (apply U.bin; rfl; trivial; rfl; trivial; rfl; rfl) | (apply U.len; rfl; trivial; rfl) | (apply U.pickb; rfl; trivial; rfl; (first | trivial | exact id | exact And.right | exact gvA | exact gvB | exact And.left | exact gvN | exact gvP2 | exact gvN2 | exact gvLA); rfl; (first | trivial | exact id | exact And.right | exact gvA | exact gvB | exact And.left | exact gvN | exact gvP2 | exact gvN2 | exact gvLA); rfl) | (apply U.storeS; rfl; rfl; rfl; rfl; rfl; rfl; rfl; rfl) | (apply G.moveT; rfl; (first | trivial | exact id | exact And.right | exact gvA | exact gvB | exact And.left | exact gvN | exact gvP2 | exact gvN2 | exact gvLA); rfl; rfl; rfl) | refine Tri.skip ?_ | refine Tri.ret ?_ | (apply U.build; rfl; rfl; rfl; rfl; rfl) | (refine Tri.cond rfl (fun h => ?_) (fun h => ?_) <;> (try simp at h) <;> (try contradiction)) | fail)
        · have hl : ¬ (flN s.r).length ≤ 1 := by omega
          (apply U.litT; rfl; rfl; rfl; rfl; rfl; rfl; rfl; rfl)
          skip
          refine U.appNil rfl (SrcE.t (n := false) rfl rfl) (by simp) (by simp) (by simp) rfl ?_
          repeat' (first | refine Tri.seq ?_ | refine Tri.reg ?_ | refine TriL.nil ?_ | (apply U.moveT; rfl; trivial; rfl) | (apply U.assignT; rfl; trivial; rfl) | (apply U.moveR; rfl; trivial; rfl) | (apply U.assignR; rfl; trivial; rfl) | (apply U.storeS; rfl; rfl; rfl; rfl; rfl; rfl; rfl; rfl) | refine Tri.ret ?_ | (apply U.build; rfl; rfl; rfl; rfl; rfl) | fail)
          rw [coreP_t hl h.2, coreR_t hl h.2, hq]
          exact core_end (xs := [127]) (.inr rfl) rfl rfl rfl rfl rfl (by simp)
        · have hl : ¬ (flN s.r).length ≤ 1 := by omega
          have hf := by rename_i hx; exact hx h
          (apply U.litT; rfl; rfl; rfl; rfl; rfl; rfl; rfl; rfl)
          repeat' (first | refine Tri.seq ?_ | refine Tri.reg ?_ | refine TriL.nil ?_ | (apply U.moveT; rfl; trivial; rfl) | (apply U.assignT; rfl; trivial; rfl) | (apply U.storeS; rfl; rfl; rfl; rfl; rfl; rfl; rfl; rfl) | refine Tri.ret ?_ | (apply U.build; rfl; rfl; rfl; rfl; rfl) | fail)
          rw [coreP_f hl hf, coreR_f hl hf, hq]
          exact ComesCT.trees (.inr rfl) rfl rfl rfl rfl (.tree rfl (.tree rfl .nil))
        · have hl : (flN s.r).length ≤ 1 := by omega
          rw [coreP_1 hl, coreR_1 hl, hq]
          exact ComesCT.trees (.inr rfl) rfl rfl rfl rfl (.tree rfl (.tree rfl .nil))
    | cons y ys =>
      rw [hr] at ha
      have ha : E.Pure Tryd.prog 29 [.sl s.nt (encTys s.t)] (.one (.own 1 ((y :: ys).map tInt))) := ha
      repeat' (first | refine Tri.seq ?_ | refine Tri.reg ?_ | refine TriL.nil ?_ | (apply U.assignT; rfl; trivial; rfl) | (apply U.loadS; rfl; rfl; trivial; rfl; rfl; rfl; rfl; rfl) | (apply U.not; rfl; trivial; rfl) | (apply U.boxA; rfl; rfl) | (apply U.alloc; rfl; rfl; rfl; rfl) | refine U.call1 rfl rfl (by assumption) rfl ?_ | refine Tri.skip ?_ | (refine Tri.cond rfl (fun h => ?_) (fun h => ?_) <;> (try simp at h) <;> (try contradiction)) | fail)
      refine Tri.midA ⟨[(7, .t (iT (flN s.r))), (6, .ref 2 1 0 (ys.length + 1) (ys.length + 1)), (1, .t (tBool lower)), (4, .ptr 1 0)], Tryd.f26.ntmps, [(2, .row 1 ((y :: ys).map tInt) false), (1, .obj [.t (.sl true []), .t (.sl true [])])], 0, 3⟩ ?_ ?_
      · refine Tri.regX mixed (by kernel_rfl) rfl rfl ?_
        repeat' (first | refine TriL.nil ?_ | exact Yes.mk rfl | refine X.nil ?_ | refine X.callO1 rfl rfl (by assumption) rfl (Yes.mk rfl) ?_ | (apply X.a; rfl) | exact ⟨rfl, rfl, rfl⟩ | (apply U.assignT; rfl; trivial; rfl) | (apply U.assignR; rfl; trivial; rfl) | (apply U.load; rfl; rfl; trivial; rfl; rfl; rfl) | (apply U.fld; rfl; trivial; rfl; infer_instance; decide; rfl) | (apply U.loadS; rfl; rfl; trivial; rfl; rfl; rfl; rfl; rfl) | refine U.call1 rfl rfl (by assumption) rfl ?_ | fail)
        all_goals (refine Sub.of rfl rfl ⟨rfl, ?_, rfl, rfl, trivial⟩ ⟨rfl, rfl, trivial⟩)
        all_goals (refine congrArg some ?_)
        all_goals (show PV.ref 2 1 0 _ _ = PV.ref 2 1 0 _ _)
        all_goals simp
      · repeat' (first | refine Tri.seq ?_ | refine Tri.reg ?_ | refine TriL.nil ?_ | (apply U.moveT; rfl; trivial; rfl) | (apply U.assignT; rfl; trivial; rfl) | (apply U.moveR; rfl; trivial; rfl) | (apply U.bin; rfl; trivial; rfl; trivial; rfl; rfl) | (apply U.len; rfl; trivial; rfl) | (apply U.lenR; rfl; trivial; rfl) | (apply U.pickb; rfl; trivial; rfl; (first | trivial | exact id | exact And.right | exact gvA | exact gvB | exact And.left | exact gvN | exact gvP2 | exact gvN2 | exact gvLA); rfl; (first | trivial | exact id | exact And.right | exact gvA | exact gvB | exact And.left | exact gvN | exact gvP2 | exact gvN2 | exact gvLA); rfl) | (apply U.storeS; rfl; rfl; rfl; rfl; rfl; rfl; rfl; rfl) | (apply G.moveT; rfl; (first | trivial | exact id | exact And.right | exact gvA | exact gvB | exact And.left | exact gvN | exact gvP2 | exact gvN2 | exact gvLA); rfl; rfl; rfl) | refine Tri.skip ?_ | refine Tri.ret ?_ | (apply U.build; rfl; rfl; rfl; rfl; rfl) | (refine Tri.cond rfl (fun h => ?_) (fun h => ?_) <;> (try simp at h) <;> (try contradiction)) | fail)
        · have hq : coreQ s = [127] := coreQ_big (by rw [hr]; simp; omega)
          (apply U.lit; rfl; rfl; rfl; rfl; rfl; rfl; rfl; rfl)
          repeat' (first | refine Tri.seq ?_ | refine Tri.reg ?_ | refine TriL.nil ?_ | (apply U.moveT; rfl; trivial; rfl) | (apply U.assignT; rfl; trivial; rfl) | (apply U.moveR; rfl; trivial; rfl) | (apply U.assignR; rfl; trivial; rfl) | (apply U.bin; rfl; trivial; rfl; trivial; rfl; rfl) | (apply U.len; rfl; trivial; rfl) | (apply U.pickb; rfl; trivial; rfl; (first | trivial | exact id | exact And.right | exact gvA | exact gvB | exact And.left | exact gvN | exact gvP2 | exact gvN2 | exact gvLA); rfl; (first | trivial | exact id | exact And.right | exact gvA | exact gvB | exact And.left | exact gvN | exact gvP2 | exact gvN2 | exact gvLA); rfl) | (apply U.storeS; rfl; rfl; rfl; rfl; rfl; rfl; rfl; rfl) | (apply G.moveT; rfl; (first | trivial | exact id | exact And.right | exact gvA | exact gvB | exact And.left | exact gvN | exact gvP2 | exact gvN2 | exact gvLA); rfl; rfl; rfl) | refine Tri.skip ?_ | refine Tri.ret ?_ | (apply U.build; rfl; rfl; rfl; rfl; rfl) | (refine Tri.cond rfl (fun h => ?_) (fun h => ?_) <;> (try simp at h) <;> (try contradiction)) | fail)
          · have hl : ¬ (flN s.r).length ≤ 1 := by omega
            (apply U.litT; rfl; rfl; rfl; rfl; rfl; rfl; rfl; rfl)
            skip
            refine U.appOwn rfl rfl (by simp) (by simp) (SrcE.t (n := false) rfl rfl) (by simp) (by simp) rfl ?_
            repeat' (first | refine Tri.seq ?_ | refine Tri.reg ?_ | refine TriL.nil ?_ | (apply U.moveT; rfl; trivial; rfl) | (apply U.assignT; rfl; trivial; rfl) | (apply U.moveR; rfl; trivial; rfl) | (apply U.assignR; rfl; trivial; rfl) | (apply U.storeS; rfl; rfl; rfl; rfl; rfl; rfl; rfl; rfl) | refine Tri.ret ?_ | (apply U.build; rfl; rfl; rfl; rfl; rfl) | fail)
            rw [coreP_t hl h.2, coreR_t hl h.2, hq]
            exact core_end (xs := [127] ++ [127]) (.inr rfl) rfl rfl rfl rfl (by simp) (by simp)
          · have hl : ¬ (flN s.r).length ≤ 1 := by omega
            have hf := by rename_i hx; exact hx h
            (apply U.litT; rfl; rfl; rfl; rfl; rfl; rfl; rfl; rfl)
            repeat' (first | refine Tri.seq ?_ | refine Tri.reg ?_ | refine TriL.nil ?_ | (apply U.moveT; rfl; trivial; rfl) | (apply U.assignT; rfl; trivial; rfl) | (apply U.moveR; rfl; trivial; rfl) | (apply U.storeS; rfl; rfl; rfl; rfl; rfl; rfl; rfl; rfl) | refine Tri.ret ?_ | (apply U.build; rfl; rfl; rfl; rfl; rfl) | fail)
            rw [coreP_f hl hf, coreR_f hl hf, hq]
            exact core_end (xs := [127]) (.inr rfl) rfl rfl rfl rfl rfl (by simp)
          · have hl : (flN s.r).length ≤ 1 := by omega
            rw [coreP_1 hl, coreR_1 hl, hq]
            exact core_end (xs := [127]) (.inr rfl) rfl rfl rfl rfl rfl (by simp)
        all_goals (have hq : coreQ s = y :: ys := by rw [coreQ_sm (by rw [hr]; simp; omega), hr])
        · have hl : ¬ (flN s.r).length ≤ 1 := by omega
          (apply U.litT; rfl; rfl; rfl; rfl; rfl; rfl; rfl; rfl)
          skip
          refine U.appOwn rfl rfl (by simp) (by simp) (SrcE.t (n := false) rfl rfl) (by simp; omega) (by simp; omega) rfl ?_
          repeat' (first | refine Tri.seq ?_ | refine Tri.reg ?_ | refine TriL.nil ?_ | (apply U.moveT; rfl; trivial; rfl) | (apply U.assignT; rfl; trivial; rfl) | (apply U.moveR; rfl; trivial; rfl) | (apply U.assignR; rfl; trivial; rfl) | (apply U.storeS; rfl; rfl; rfl; rfl; rfl; rfl; rfl; rfl) | refine Tri.ret ?_ | (apply U.build; rfl; rfl; rfl; rfl; rfl) | fail)
          rw [coreP_t hl h.2, coreR_t hl h.2, hq]
          exact core_end (xs := (y :: ys) ++ [127]) (.inr rfl) rfl rfl rfl (by simp; rfl) (by simp) (by simp)
        · have hl : ¬ (flN s.r).length ≤ 1 := by omega
          have hf := by rename_i hx; exact hx h
          (apply U.litT; rfl; rfl; rfl; rfl; rfl; rfl; rfl; rfl)
          repeat' (first | refine Tri.seq ?_ | refine Tri.reg ?_ | refine TriL.nil ?_ | (apply U.moveT; rfl; trivial; rfl) | (apply U.assignT; rfl; trivial; rfl) | (apply U.moveR; rfl; trivial; rfl) | (apply U.storeS; rfl; rfl; rfl; rfl; rfl; rfl; rfl; rfl) | refine Tri.ret ?_ | (apply U.build; rfl; rfl; rfl; rfl; rfl) | fail)
          rw [coreP_f hl hf, coreR_f hl hf, hq]
          exact core_end (xs := (y :: ys)) (.inr rfl) rfl rfl rfl rfl rfl (by simp)
        · have hl : (flN s.r).length ≤ 1 := by omega
          rw [coreP_1 hl, coreR_1 hl, hq]
          exact core_end (xs := (y :: ys)) (.inr rfl) rfl rfl rfl rfl rfl (by simp)
theorem sameTypes_p (a b c d : List Int) (ha : a.length ≤ big) (hb : b.length ≤ big) (hc : c.length ≤ big) (hd : d.length ≤ big) : E.Pure Tryd.prog 27 [.agg [iT a, iT b], .agg [iT c, iT d]] (.one (.t (tBool (decide (a = c) && decide (b = d))))) := by
  have h1 := same_p a c a.isEmpty c.isEmpty ha hc
  have h2 := same_p b d b.isEmpty d.isEmpty hb hd
  refine Pure.of1 Tryd.func27 rfl rfl (Nat.le_of_ble_eq_true rfl) rfl ?_
  repeat' (first | refine Tri.seq ?_ | refine Tri.reg ?_ | refine TriL.nil ?_ | (apply U.moveT; rfl; trivial; rfl) | (apply U.assignT; rfl; trivial; rfl) | (apply U.load; rfl; rfl; trivial; rfl; rfl; rfl) | (apply U.fld; rfl; trivial; rfl; infer_instance; decide; rfl) | (apply U.pickb; rfl; trivial; rfl; (first | trivial | exact id | exact And.right | exact gvA | exact gvB | exact And.left | exact gvN | exact gvP2 | exact gvN2 | exact gvLA); rfl; (first | trivial | exact id | exact And.right | exact gvA | exact gvB | exact And.left | exact gvN | exact gvP2 | exact gvN2 | exact gvLA); rfl) | (apply U.boxA; rfl; rfl) | (apply G.load; rfl; rfl; (first | trivial | exact id | exact And.right | exact gvA | exact gvB | exact And.left | exact gvN | exact gvP2 | exact gvN2 | exact gvLA); rfl; rfl; rfl; rfl; rfl) | (apply G.fld; rfl; (first | trivial | exact id | exact And.right | exact gvA | exact gvB | exact And.left | exact gvN | exact gvP2 | exact gvN2 | exact gvLA); rfl; infer_instance; decide; rfl; rfl; rfl) | refine U.call2 rfl rfl rfl (by assumption) rfl ?_ | refine G.call2 rfl rfl (by (first | trivial | exact id | exact And.right | exact gvA | exact gvB | exact And.left | exact gvN | exact gvP2 | exact gvN2 | exact gvLA)) rfl (by (first | trivial | exact id | exact And.right | exact gvA | exact gvB | exact And.left | exact gvN | exact gvP2 | exact gvN2 | exact gvLA)) (by first | assumption | exact fun _ => by assumption) rfl rfl rfl ?_ | refine Tri.ret ?_ | fail)
  refine Comes1.ret rfl (retB ?_)
  cases decide (a = c) <;> rfl
end Go.Proofs.YtaplmmhkpljmkaaDoor

/- Layer 13: the law CtypeCores answers true. -/
namespace Go.Proofs.YtaplmmhkpljmkaaDoor
open Go E
set_option maxRecDepth 100000
set_option maxHeartbeats 4000000
set_option linter.unusedVariables false
set_option linter.unusedSimpArgs false
theorem ownI_t {P : Program} {f : FuncId} {args : List T} {l : List Int} (h : E.Pure P f args (.one (ownI l))) : E.Pure P f args (.one (.t (iT l))) := by
  cases l with
  | nil => exact h
  | cons y ys => exact Pure.frz h
attribute [local irreducible] Tri TriL TriO PO VO E.Pure DOb XOb
theorem coreR_len {s : Sg} (h : (flN s.r).length ≤ 1000) (lower : Bool) : (coreR s lower).length ≤ 1 := by
  unfold coreR; split
  · assumption
  · split <;> simp
theorem coreP_len (s : Sg) (lower : Bool) : (coreP s lower).length ≤ 17 := by
  have hq : (coreQ s).length ≤ 16 := by
    unfold coreQ; split
    · simp
    · omega
  by_cases h : (flN s.r).length ≤ 1
  · rw [coreP_1 h]; omega
  · cases hl : lower
    · rw [coreP_f h rfl]; omega
    · rw [coreP_t h rfl]; simp; omega
theorem ctypeCores_p (s : Sg) (lower : Bool) (hs : smallSg s) : E.Pure Tryd.prog 6 [encSg s, tBool lower] (.one (.t (tBool true))) := by
  have h1 := core_p lexName_p s lower hs
  have h2 := coreRef_p s lower hs
  have h3 := ownI_t (args_p lexName_p s hs)
  have h5 := awake_p lexName_p
  unfold coreT at h1 h2
  rw [encSg_eta] at *
  cases hm : maySgB s with
  | false =>
    simp only [hm, Bool.false_eq_true, if_false] at *
    have hst := sameTypes_p [] [] [] [] (by simp) (by simp) (by simp) (by simp)
    refine Pure.of1 Tryd.func6 rfl rfl (Nat.le_of_ble_eq_true rfl) rfl ?_
    repeat' (first | refine Tri.seq ?_ | refine Tri.reg ?_ | refine TriL.nil ?_ | (apply U.moveT; rfl; trivial; rfl) | (apply U.assignT; rfl; trivial; rfl) | (apply U.moveU; rfl; trivial; rfl) | (apply U.bin; rfl; trivial; rfl; trivial; rfl; rfl) | (apply U.len; rfl; trivial; rfl) | (apply U.loadS; rfl; rfl; trivial; rfl; rfl; rfl; rfl; rfl) | (apply U.ext; rfl; trivial; rfl; rfl) | (apply U.pickb; rfl; trivial; rfl; (first | trivial | exact id | exact And.right | exact gvA | exact gvB | exact And.left | exact gvN | exact gvP2 | exact gvN2 | exact gvLA); rfl; (first | trivial | exact id | exact And.right | exact gvA | exact gvB | exact And.left | exact gvN | exact gvP2 | exact gvN2 | exact gvLA); rfl) | (apply U.boxA; rfl; rfl) | (apply U.alloc; rfl; rfl; rfl; rfl) | (apply U.storeS; rfl; rfl; rfl; rfl; rfl; rfl; rfl; rfl) | (apply G.loadS; rfl; rfl; (first | trivial | exact id | exact And.right | exact gvA | exact gvB | exact And.left | exact gvN | exact gvP2 | exact gvN2 | exact gvLA); rfl; rfl; rfl; rfl; rfl; rfl; rfl) | (apply G.not; rfl; (first | trivial | exact id | exact And.right | exact gvA | exact gvB | exact And.left | exact gvN | exact gvP2 | exact gvN2 | exact gvLA); rfl; rfl; rfl) | refine U.call1 rfl rfl (by assumption) rfl ?_ | refine G.call2 rfl rfl (by (first | trivial | exact id | exact And.right | exact gvA | exact gvB | exact And.left | exact gvN | exact gvP2 | exact gvN2 | exact gvLA)) rfl (by (first | trivial | exact id | exact And.right | exact gvA | exact gvB | exact And.left | exact gvN | exact gvP2 | exact gvN2 | exact gvLA)) (by first | assumption | exact fun _ => by assumption) rfl rfl rfl ?_ | refine Tri.skip ?_ | refine Tri.ret ?_ | refine G.call0 rfl (by first | assumption | exact fun _ => by assumption) rfl rfl rfl ?_ | refine U.callP2 rfl rfl rfl (by assumption) rfl ?_ | (refine Tri.cond rfl (fun h => ?_) (fun h => ?_) <;> (try simp at h) <;> (try contradiction)) | fail)
    exact Comes1.ret rfl rfl
  | true =>
    have ho := maySg_ok hm
    simp only [hm, if_true] at h1 h2 h3
    have hlp := coreP_len s lower
    have hlr := coreR_len (len_fl ho.r.2) lower
    have hrow := ho.row
    have hst := sameTypes_p (coreP s lower) (coreR s lower) (coreP s lower) (coreR s lower) (by unfold big; omega) (by unfold big; omega) (by unfold big; omega) (by unfold big; omega)
    simp only [decide_true, Bool.and_true] at hst
    have hsm := same_p (rowN s.t) (rowN s.t) (rowN s.t).isEmpty (rowN s.t).isEmpty (by unfold big; omega) (by unfold big; omega)
    simp only [decide_true] at hsm
    have ha := ownI_t (row_own s.t s.nt (by have := ho.t; unfold big; omega) (fun i hi => by
      have := cores_p _ s.t[i] (Nat.le_refl _) ((ho.el _ (List.getElem_mem hi)).1.gd (ho.el _ (List.getElem_mem hi)).2)
      rwa [encTy_eta] at this) (by omega))
    refine Pure.of1 Tryd.func6 rfl rfl (Nat.le_of_ble_eq_true rfl) rfl ?_
    repeat' (first | refine Tri.seq ?_ | refine Tri.reg ?_ | refine TriL.nil ?_ | (apply U.moveT; rfl; trivial; rfl) | (apply U.assignT; rfl; trivial; rfl) | (apply U.moveU; rfl; trivial; rfl) | (apply U.bin; rfl; trivial; rfl; trivial; rfl; rfl) | (apply U.loadS; rfl; rfl; trivial; rfl; rfl; rfl; rfl; rfl) | (apply U.ext; rfl; trivial; rfl; rfl) | (apply U.pickb; rfl; trivial; rfl; (first | trivial | exact id | exact And.right | exact gvA | exact gvB | exact And.left | exact gvN | exact gvP2 | exact gvN2 | exact gvLA); rfl; (first | trivial | exact id | exact And.right | exact gvA | exact gvB | exact And.left | exact gvN | exact gvP2 | exact gvN2 | exact gvLA); rfl) | (apply U.boxA; rfl; rfl) | (apply U.alloc; rfl; rfl; rfl; rfl) | (apply U.storeS; rfl; rfl; rfl; rfl; rfl; rfl; rfl; rfl) | (apply G.loadS; rfl; rfl; (first | trivial | exact id | exact And.right | exact gvA | exact gvB | exact And.left | exact gvN | exact gvP2 | exact gvN2 | exact gvLA); rfl; rfl; rfl; rfl; rfl; rfl; rfl) | (apply G.not; rfl; (first | trivial | exact id | exact And.right | exact gvA | exact gvB | exact And.left | exact gvN | exact gvP2 | exact gvN2 | exact gvLA); rfl; rfl; rfl) | refine G.call2 rfl rfl (by (first | trivial | exact id | exact And.right | exact gvA | exact gvB | exact And.left | exact gvN | exact gvP2 | exact gvN2 | exact gvLA)) rfl (by (first | trivial | exact id | exact And.right | exact gvA | exact gvB | exact And.left | exact gvN | exact gvP2 | exact gvN2 | exact gvLA)) (by first | assumption | exact fun _ => by assumption) rfl rfl rfl ?_ | refine Tri.skip ?_ | refine U.callP2 rfl rfl rfl (by assumption) rfl ?_ | (refine Tri.cond rfl (fun h => ?_) (fun h => ?_) <;> (try simp at h) <;> (try contradiction)) | fail)
    refine Tri.regX mixed (by kernel_rfl) rfl rfl ?_
    repeat' (first | refine TriL.nil ?_ | exact Yes.mk rfl | refine X.nil ?_ | (apply X.a; rfl) | exact ⟨rfl, rfl, rfl⟩ | (apply U.moveT; rfl; trivial; rfl) | (apply U.assignT; rfl; trivial; rfl) | (apply U.load; rfl; rfl; trivial; rfl; rfl; rfl) | (apply U.fld; rfl; trivial; rfl; infer_instance; decide; rfl) | (apply U.loadS; rfl; rfl; trivial; rfl; rfl; rfl; rfl; rfl) | (apply U.pickb; rfl; trivial; rfl; (first | trivial | exact id | exact And.right | exact gvA | exact gvB | exact And.left | exact gvN | exact gvP2 | exact gvN2 | exact gvLA); rfl; (first | trivial | exact id | exact And.right | exact gvA | exact gvB | exact And.left | exact gvN | exact gvP2 | exact gvN2 | exact gvLA); rfl) | (apply G.load; rfl; rfl; (first | trivial | exact id | exact And.right | exact gvA | exact gvB | exact And.left | exact gvN | exact gvP2 | exact gvN2 | exact gvLA); rfl; rfl; rfl; rfl; rfl) | (apply G.fld; rfl; (first | trivial | exact id | exact And.right | exact gvA | exact gvB | exact And.left | exact gvN | exact gvP2 | exact gvN2 | exact gvLA); rfl; infer_instance; decide; rfl; rfl; rfl) | (apply G.bin; rfl; (first | trivial | exact id | exact And.right | exact gvA | exact gvB | exact And.left | exact gvN | exact gvP2 | exact gvN2 | exact gvLA); rfl; (first | trivial | exact id | exact And.right | exact gvA | exact gvB | exact And.left | exact gvN | exact gvP2 | exact gvN2 | exact gvLA); rfl; rfl; rfl; rfl) | (apply G.len; rfl; (first | trivial | exact id | exact And.right | exact gvA | exact gvB | exact And.left | exact gvN | exact gvP2 | exact gvN2 | exact gvLA); rfl; rfl; rfl) | refine U.call1 rfl rfl (by assumption) rfl ?_ | refine U.call2 rfl rfl rfl (by assumption) rfl ?_ | refine Tri.ret ?_ | refine G.call0 rfl (by first | assumption | exact fun _ => by assumption) rfl rfl rfl ?_ | fail)
    refine Comes1.ret rfl (retB ?_)
    simp
    omega
end Go.Proofs.YtaplmmhkpljmkaaDoor

/- Layer 13: the law CtypeBoth answers true. -/
namespace Go.Proofs.YtaplmmhkpljmkaaDoor
open Go E
set_option maxRecDepth 100000
set_option maxHeartbeats 4000000
set_option linter.unusedVariables false
set_option linter.unusedSimpArgs false
attribute [local irreducible] Tri TriL TriO PO VO E.Pure DOb XOb
theorem ctypeBoth_p (s : Sg) (hs : smallSg s) : E.Pure Tryd.prog 7 [encSg s] (.one (.t (tBool true))) := by
  have h1 := core_p lexName_p s false hs
  have h2 := core_p lexName_p s true hs
  have h5 := awake_p lexName_p
  unfold coreT at h1 h2
  rw [encSg_eta] at *
  cases hm : maySgB s with
  | false =>
    simp only [hm, Bool.false_eq_true, if_false] at *
    refine Pure.of1 Tryd.func7 rfl rfl (Nat.le_of_ble_eq_true rfl) rfl ?_
    repeat' (first | refine Tri.seq ?_ | refine Tri.reg ?_ | refine TriL.nil ?_ | (apply U.moveT; rfl; trivial; rfl) | (apply U.assignT; rfl; trivial; rfl) | (apply U.moveU; rfl; trivial; rfl) | (apply U.bin; rfl; trivial; rfl; trivial; rfl; rfl) | (apply U.loadS; rfl; rfl; trivial; rfl; rfl; rfl; rfl; rfl) | (apply U.ext; rfl; trivial; rfl; rfl) | (apply U.pickb; rfl; trivial; rfl; (first | trivial | exact id | exact And.right | exact gvA | exact gvB | exact And.left | exact gvN | exact gvP2 | exact gvN2 | exact gvLA); rfl; (first | trivial | exact id | exact And.right | exact gvA | exact gvB | exact And.left | exact gvN | exact gvP2 | exact gvN2 | exact gvLA); rfl) | (apply U.boxA; rfl; rfl) | (apply U.alloc; rfl; rfl; rfl; rfl) | (apply U.storeS; rfl; rfl; rfl; rfl; rfl; rfl; rfl; rfl) | (apply G.moveT; rfl; (first | trivial | exact id | exact And.right | exact gvA | exact gvB | exact And.left | exact gvN | exact gvP2 | exact gvN2 | exact gvLA); rfl; rfl; rfl) | (apply G.bin; rfl; (first | trivial | exact id | exact And.right | exact gvA | exact gvB | exact And.left | exact gvN | exact gvP2 | exact gvN2 | exact gvLA); rfl; (first | trivial | exact id | exact And.right | exact gvA | exact gvB | exact And.left | exact gvN | exact gvP2 | exact gvN2 | exact gvLA); rfl; rfl; rfl; rfl) | refine Tri.ret ?_ | refine G.call0 rfl (by first | assumption | exact fun _ => by assumption) rfl rfl rfl ?_ | refine U.callP2 rfl rfl rfl (by assumption) rfl ?_ | (refine Tri.cond rfl (fun h => ?_) (fun h => ?_) <;> (try simp at h) <;> (try contradiction)) | fail)
    exact Comes1.ret rfl rfl
  | true =>
    have ho := maySg_ok hm
    simp only [hm, if_true] at h1 h2
    have hf := cores_p _ s.r (Nat.le_refl _) (ho.r.1.gd ho.r.2)
    rw [encTy_eta] at hf
    have hlp := coreP_len s false
    have hlr := coreR_len (len_fl ho.r.2) false
    by_cases hl : (flN s.r).length ≤ 1
    · have e1 : coreP s true = coreP s false := by rw [coreP_1 hl, coreP_1 hl]
      have e2 : coreR s true = coreR s false := by rw [coreR_1 hl, coreR_1 hl]
      rw [e1, e2] at h2
      have hst := sameTypes_p (coreP s false) (coreR s false) (coreP s false) (coreR s false) (by unfold big; omega) (by unfold big; omega) (by unfold big; omega) (by unfold big; omega)
      simp only [decide_true, Bool.and_true] at hst
      refine Pure.of1 Tryd.func7 rfl rfl (Nat.le_of_ble_eq_true rfl) rfl ?_
      repeat' (first | refine Tri.seq ?_ | refine Tri.reg ?_ | refine TriL.nil ?_ | (apply U.moveT; rfl; trivial; rfl) | (apply U.assignT; rfl; trivial; rfl) | (apply U.moveU; rfl; trivial; rfl) | (apply U.fld; rfl; trivial; rfl; infer_instance; decide; rfl) | (apply U.bin; rfl; trivial; rfl; trivial; rfl; rfl) | (apply U.len; rfl; trivial; rfl) | (apply U.loadS; rfl; rfl; trivial; rfl; rfl; rfl; rfl; rfl) | (apply U.ext; rfl; trivial; rfl; rfl) | (apply U.pickb; rfl; trivial; rfl; (first | trivial | exact id | exact And.right | exact gvA | exact gvB | exact And.left | exact gvN | exact gvP2 | exact gvN2 | exact gvLA); rfl; (first | trivial | exact id | exact And.right | exact gvA | exact gvB | exact And.left | exact gvN | exact gvP2 | exact gvN2 | exact gvLA); rfl) | (apply U.boxA; rfl; rfl) | (apply U.alloc; rfl; rfl; rfl; rfl) | (apply U.storeS; rfl; rfl; rfl; rfl; rfl; rfl; rfl; rfl) | (apply G.moveT; rfl; (first | trivial | exact id | exact And.right | exact gvA | exact gvB | exact And.left | exact gvN | exact gvP2 | exact gvN2 | exact gvLA); rfl; rfl; rfl) | (apply G.bin; rfl; (first | trivial | exact id | exact And.right | exact gvA | exact gvB | exact And.left | exact gvN | exact gvP2 | exact gvN2 | exact gvLA); rfl; (first | trivial | exact id | exact And.right | exact gvA | exact gvB | exact And.left | exact gvN | exact gvP2 | exact gvN2 | exact gvLA); rfl; rfl; rfl; rfl) | refine U.call1 rfl rfl (by assumption) rfl ?_ | refine U.call2 rfl rfl rfl (by assumption) rfl ?_ | refine Tri.skip ?_ | refine Tri.ret ?_ | refine G.call0 rfl (by first | assumption | exact fun _ => by assumption) rfl rfl rfl ?_ | refine U.callP2 rfl rfl rfl (by assumption) rfl ?_ | (refine Tri.cond rfl (fun h => ?_) (fun h => ?_) <;> (try simp at h) <;> (try contradiction)) | fail)
      · exact Comes1.ret rfl rfl
      · exfalso; omega
    · rw [coreP_f hl rfl, coreR_f hl rfl] at h1
      rw [coreP_t hl rfl, coreR_t hl rfl] at h2
      rw [coreP_f hl rfl] at hlp
      generalize coreQ s = q at *
      have htk : ((q ++ [127]).map tInt).take ((((q.map tInt).length : Nat) : Int)).toNat = q.map tInt := by simp
      have hs1 : E.Pure Tryd.prog 13 [.sl ((q ++ [127]).isEmpty) (((q ++ [127]).map tInt).take ((((q.map tInt).length : Nat) : Int)).toNat), iT q] (.one (.t (tBool (decide (q = q))))) := by
        have := same_p q q ((q ++ [127]).isEmpty) q.isEmpty (by unfold big; omega) (by unfold big; omega)
        rw [htk]; exact this
      have hs2 := same_p [127] [127] false false (by unfold big; simp) (by unfold big; simp)
      simp only [decide_true] at hs1 hs2
      have hlq : ((q ++ [127]).map tInt).length = q.length + 1 := by simp
      have hlq2 : (q.map tInt).length = q.length := by simp
      have hget : ((q ++ [127]).map tInt)[((((q.map tInt).length : Nat) : Int)).toNat]? = some (tInt 127) := by simp
      refine Pure.of1 Tryd.func7 rfl rfl (Nat.le_of_ble_eq_true rfl) rfl ?_
      repeat' (first | refine Tri.seq ?_ | refine Tri.reg ?_ | refine TriL.nil ?_ | (apply U.moveT; rfl; trivial; rfl) | (apply U.assignT; rfl; trivial; rfl) | (apply U.moveU; rfl; trivial; rfl) | (apply U.fld; rfl; trivial; rfl; infer_instance; decide; rfl) | (apply U.bin; rfl; trivial; rfl; trivial; rfl; rfl) | (apply U.len; rfl; trivial; rfl) | (apply U.loadS; rfl; rfl; trivial; rfl; rfl; rfl; rfl; rfl) | (apply U.ext; rfl; trivial; rfl; rfl) | (apply U.pickb; rfl; trivial; rfl; (first | trivial | exact id | exact And.right | exact gvA | exact gvB | exact And.left | exact gvN | exact gvP2 | exact gvN2 | exact gvLA); rfl; (first | trivial | exact id | exact And.right | exact gvA | exact gvB | exact And.left | exact gvN | exact gvP2 | exact gvN2 | exact gvLA); rfl) | (apply U.boxA; rfl; rfl) | (apply U.alloc; rfl; rfl; rfl; rfl) | (apply U.storeS; rfl; rfl; rfl; rfl; rfl; rfl; rfl; rfl) | (apply G.moveT; rfl; (first | trivial | exact id | exact And.right | exact gvA | exact gvB | exact And.left | exact gvN | exact gvP2 | exact gvN2 | exact gvLA); rfl; rfl; rfl) | (apply G.bin; rfl; (first | trivial | exact id | exact And.right | exact gvA | exact gvB | exact And.left | exact gvN | exact gvP2 | exact gvN2 | exact gvLA); rfl; (first | trivial | exact id | exact And.right | exact gvA | exact gvB | exact And.left | exact gvN | exact gvP2 | exact gvN2 | exact gvLA); rfl; rfl; rfl; rfl) | refine U.call1 rfl rfl (by assumption) rfl ?_ | refine Tri.skip ?_ | refine U.callP2 rfl rfl rfl (by assumption) rfl ?_ | (refine Tri.cond rfl (fun h => ?_) (fun h => ?_) <;> (try simp at h) <;> (try contradiction)) | fail)
      · exfalso; omega
      refine Tri.regX mixed (by kernel_rfl) rfl rfl ?_
      repeat' (first | refine TriL.nil ?_ | exact Yes.mk rfl | refine X.nil ?_ | (apply X.a; rfl) | exact ⟨rfl, rfl, rfl⟩ | (apply U.moveT; rfl; trivial; rfl) | (apply U.assignT; rfl; trivial; rfl) | (apply U.load; rfl; rfl; trivial; rfl; rfl; rfl) | (apply U.fld; rfl; trivial; rfl; infer_instance; decide; rfl) | (apply U.add; rfl; trivial; rfl; trivial; exact fun _ => wrap_i64 (by omega) (by omega); rfl) | (apply U.bin; rfl; trivial; rfl; trivial; rfl; rfl) | (apply U.len; rfl; trivial; rfl) | (apply U.pickb; rfl; trivial; rfl; (first | trivial | exact id | exact And.right | exact gvA | exact gvB | exact And.left | exact gvN | exact gvP2 | exact gvN2 | exact gvLA); rfl; (first | trivial | exact id | exact And.right | exact gvA | exact gvB | exact And.left | exact gvN | exact gvP2 | exact gvN2 | exact gvLA); rfl) | (apply G.load; rfl; rfl; (first | trivial | exact id | exact And.right | exact gvA | exact gvB | exact And.left | exact gvN | exact gvP2 | exact gvN2 | exact gvLA); rfl; rfl; rfl; rfl; rfl) | (apply G.fld; rfl; (first | trivial | exact id | exact And.right | exact gvA | exact gvB | exact And.left | exact gvN | exact gvP2 | exact gvN2 | exact gvLA); rfl; infer_instance; decide; rfl; rfl; rfl) | (apply G.bin; rfl; (first | trivial | exact id | exact And.right | exact gvA | exact gvB | exact And.left | exact gvN | exact gvP2 | exact gvN2 | exact gvLA); rfl; (first | trivial | exact id | exact And.right | exact gvA | exact gvB | exact And.left | exact gvN | exact gvP2 | exact gvN2 | exact gvLA); rfl; rfl; rfl; rfl) | (apply G.len; rfl; (first | trivial | exact id | exact And.right | exact gvA | exact gvB | exact And.left | exact gvN | exact gvP2 | exact gvN2 | exact gvLA); rfl; rfl; rfl) | (apply G.loadE; rfl; rfl; (first | trivial | exact id | exact And.right | exact gvA | exact gvB | exact And.left | exact gvN | exact gvP2 | exact gvN2 | exact gvLA); rfl; rfl; rfl; rfl) | (apply G.idx; rfl; (first | trivial | exact id | exact And.right | exact gvA | exact gvB | exact And.left | exact gvN | exact gvP2 | exact gvN2 | exact gvLA); rfl; (first | trivial | exact id | exact And.right | exact gvA | exact gvB | exact And.left | exact gvN | exact gvP2 | exact gvN2 | exact gvLA); exact fun _ => (by omega); exact fun _ => (by assumption); exact fun _ => rfl; rfl; rfl; rfl) | (apply G.cutHi; rfl; (first | trivial | exact id | exact And.right | exact gvA | exact gvB | exact And.left | exact gvN | exact gvP2 | exact gvN2 | exact gvLA); rfl; (first | trivial | exact id | exact And.right | exact gvA | exact gvB | exact And.left | exact gvN | exact gvP2 | exact gvN2 | exact gvLA); exact fun _ => (by first | omega | (simp at *; omega)); exact fun _ => (by first | omega | (simp at *; omega)); exact fun _ => (by intro i_ x_ h_; simp only [List.getElem?_map, Option.map_eq_some_iff] at h_; obtain ⟨_, _, rfl⟩ := h_; rfl); rfl; rfl; rfl) | refine G.call2 rfl rfl (by (first | trivial | exact id | exact And.right | exact gvA | exact gvB | exact And.left | exact gvN | exact gvP2 | exact gvN2 | exact gvLA)) rfl (by (first | trivial | exact id | exact And.right | exact gvA | exact gvB | exact And.left | exact gvN | exact gvP2 | exact gvN2 | exact gvLA)) (by first | assumption | exact fun _ => by assumption) rfl rfl rfl ?_ | refine Tri.ret ?_ | (apply G.litT; rfl; rfl; rfl; rfl; rfl; rfl; rfl; rfl; rfl; rfl) | refine G.call0 rfl (by first | assumption | exact fun _ => by assumption) rfl rfl rfl ?_ | fail)
      refine Comes1.ret rfl (retB ?_)
      simp
end Go.Proofs.YtaplmmhkpljmkaaDoor

/- Layer 13: sizes, alignments, places: what is said of them. -/
namespace Go.Proofs.YtaplmmhkpljmkaaDoor
open Go E
set_option maxRecDepth 100000
set_option maxHeartbeats 4000000
set_option linter.unusedVariables false
set_option linter.unusedSimpArgs false
mutual
theorem deepB_mono : ∀ (t : Ty) (m n : Int), m ≤ n → deepB t n = true → deepB t m = true
  | .mk k nn ns nl l r, m, n, h, hd => by
    rw [deepB] at hd ⊢
    simp only [Bool.and_eq_true, Bool.not_eq_true', decide_eq_false_iff_not] at hd ⊢
    exact ⟨⟨by omega, hd.1.2⟩, deepsB_mono k l m n h hd.2⟩
theorem deepsB_mono : ∀ (k : Int) (l : List Ty) (m n : Int), m ≤ n → deepsB k l n = true → deepsB k l m = true
  | _, [], _, _, _, _ => by rw [deepsB]
  | k, t :: ts, m, n, h, hd => by
    rw [deepsB] at hd ⊢
    simp only [Bool.and_eq_true, Bool.or_eq_true] at hd ⊢
    exact ⟨hd.1.imp id (deepB_mono t (m + 1) (n + 1) (by omega)), deepsB_mono k ts m n h hd.2⟩
end
/-- What stands within a type that may be, may be, or is none. -/
theorem may_el {t x : Ty} (h : mayB t = true) (hx : x ∈ t.l) : (noneT x = true ∧ (t.kind = 15 ∨ t.kind = 18)) ∨ mayB x = true := by
  obtain ⟨hv, hp⟩ := may_vd h
  have h' := h
  simp only [mayB, Bool.and_eq_true, decide_eq_true_eq] at h'
  have h1 := h'.1
  rw [deepB_eq] at h1
  simp only [Bool.and_eq_true] at h1
  have hk0 : t.kind ≠ 0 := by
    intro e
    have := h1.1.2
    simp [ownB, e] at this
  have hgo : ∀ (l : List Ty), deepsB t.kind l 0 = true → x ∈ l → (noneT x = true ∧ (t.kind = 15 ∨ t.kind = 18)) ∨ deepB x 1 = true := fun l => by
    induction l with
    | nil => intro _ h; cases h
    | cons y l ih =>
      intro h1 h2
      rw [deepsB] at h1
      simp only [Bool.and_eq_true, Bool.or_eq_true, decide_eq_true_eq] at h1
      rcases List.mem_cons.1 h2 with rfl | h2
      · rcases h1.1 with h | h
        · exact .inl ⟨h.2, h.1⟩
        · exact .inr h
      · exact ih h1.2 h2
  rcases hgo t.l h1.2 hx with q | q
  · exact .inl q
  · have hd := deepB_mono x 0 1 (by omega) q
    by_cases hk : x.kind = 0
    · have := deepB_own hd; simp [ownB, hk] at this
    · right
      simp only [mayB, Bool.and_eq_true, decide_eq_true_eq]
      exact ⟨hd, pw_el (hv.pl hp).sum hx hk⟩
theorem recF_app (s a : Int) : ∀ (l : List Ty) (t : Ty), recF s a (l ++ [t]) = (upN (recF s a l).1 (layN t).2 + (layN t).1, max (recF s a l).2 (layN t).2)
  | [], t => by simp [recF]
  | x :: l, t => by simp only [List.cons_append, recF]; exact recF_app _ _ l t
/-- Where the fields ahead of a field end. -/
def enF (l : List Ty) (i : Nat) : Int := (recF 0 1 (l.take i)).1
theorem enF_succ {l : List Ty} {i : Nat} (h : i < l.length) : enF l (i + 1) = upN (enF l i) (layN l[i]).2 + (layN l[i]).1 := by
  unfold enF; rw [List.take_succ_eq_append_getElem h, recF_app]
theorem plF_get (a : Int) : ∀ (s : Int) (l : List Ty) (i : Nat) (h : i < l.length), (plF s l)[i]? = some (upN (recF s a (l.take i)).1 (layN l[i]).2)
  | s, t :: ts, 0, _ => by simp [plF, recF]
  | s, t :: ts, i + 1, h => by
    simp only [plF, List.getElem?_cons_succ, List.take_succ_cons, recF, List.getElem_cons_succ]
    rw [plF_get (max a (layN t).2) _ ts i (by simpa using h)]
theorem recF_al : ∀ (l : List Ty) (s a : Int), a ≤ (recF s a l).2 ∧ ∀ x ∈ l, (layN x).2 ≤ (recF s a l).2
  | [], s, a => ⟨Int.le_refl _, fun x h => by cases h⟩
  | t :: ts, s, a => by
    simp only [recF]
    obtain ⟨h1, h2⟩ := recF_al ts (upN s (layN t).2 + (layN t).1) (max a (layN t).2)
    exact ⟨by omega, fun x hx => by
      rcases List.mem_cons.1 hx with rfl | hx
      · omega
      · exact h2 x hx⟩
theorem varF_al : ∀ (l : List Ty) (s a : Int), (a ≤ (varF s a l).2 ∧ s ≤ (varF s a l).1) ∧ ∀ x ∈ l, (layN x).2 ≤ (varF s a l).2 ∧ (layN x).1 ≤ (varF s a l).1
  | [], s, a => ⟨⟨Int.le_refl _, Int.le_refl _⟩, fun x h => by cases h⟩
  | t :: ts, s, a => by
    simp only [varF]
    obtain ⟨h1, h2⟩ := varF_al ts (max s (layN t).1) (max a (layN t).2)
    exact ⟨by omega, fun x hx => by
      rcases List.mem_cons.1 hx with rfl | hx
      · omega
      · exact h2 x hx⟩
theorem P2.dvd {a b : Int} (ha : P2 a) (hb : P2 b) (h : a ≤ b) : b % a = 0 := by
  rcases ha with rfl | rfl | rfl | rfl <;> rcases hb with rfl | rfl | rfl | rfl <;> first | rfl | omega
theorem upN_mod (n k : Int) : upN n k % k = 0 := by unfold upN; exact Int.mul_emod_left _ _
theorem upN_1 {a : Int} (h : P2 a) : upN 1 a = a := by rcases h with rfl | rfl | rfl | rfl <;> rfl
theorem may_k {t : Ty} (h : mayB t = true) : ownB t = true := by
  simp only [mayB, Bool.and_eq_true] at h; exact deepB_own h.1
/-- How a type that may be is measured. -/
theorem lay_may : ∀ (m : Nat) (t : Ty), SizeOf.sizeOf t ≤ m → mayB t = true → P2 (layN t).2 ∧ 1 ≤ (layN t).1 ∧ (layN t).1 ≤ 8000 ∧ (layN t).1 % (layN t).2 = 0 := by
  intro m
  induction m with
  | zero => intro t hm; cases t; simp at hm
  | succ m ih =>
    intro t hm h
    obtain ⟨hv, hp⟩ := may_vd h
    have hsm := layN_sm t hp
    have ho := may_k h
    have hk0 : t.kind ≠ 0 := by intro e; simp [ownB, e] at ho
    have hpw : pw t ≤ 500 := by unfold pw; rw [if_neg hk0]; exact hp hk0
    have hs1 := hsm.s1
    have hg := hv.gd hp
    have hels : ∀ x ∈ t.l, Sm x := fun x hx => layN_sm x (hg.el x hx).2
    have hv2 := varF_sm t.l 0 1 1 hels (by omega) P2_1 (by omega) (by omega) hg.sum
    refine ⟨hsm.al, ?_, by omega, ?_⟩
    · rcases layN_case hg hv2.1 with ⟨k, e⟩ | ⟨k, e⟩ | ⟨k, e⟩ | ⟨k, e⟩ | ⟨k, e⟩
      · exact absurd k hk0
      · rw [e]; decide
      · rw [e]
        have hne : t.l ≠ [] := by
          intro hl
          rcases k with k | k
          · simp [ownB, k, hl] at ho
            have := (namesB_iff t.names 64).1 ho.2.1
            have h2 := ho.2.2
            rw [← h2] at this; omega
          · simp [ownB, k, hl] at ho
        obtain ⟨x, ts, hl⟩ := List.exists_cons_of_ne_nil hne
        have hx : x ∈ t.l := by rw [hl]; simp
        have hmx : mayB x = true := by
          rcases may_el h hx with ⟨_, hk⟩ | hk
          · omega
          · exact hk
        have hlt := List.sizeOf_lt_of_mem hx
        have hlt2 : SizeOf.sizeOf t.l < SizeOf.sizeOf t := by cases t; simp [Ty.l]; omega
        obtain ⟨q1, q2, _, _⟩ := ih x (by omega) hmx
        have hmono : ∀ (l : List Ty) (s a : Int), (∀ y ∈ l, Sm y) → 0 ≤ s → s ≤ (recF s a l).1 := fun l => by
          induction l with
          | nil => intro s a _ _; exact Int.le_refl _
          | cons y l ih2 =>
            intro s a hy hs0
            simp only [recF]
            have h1 := hy y List.mem_cons_self
            have h2 := upN_bd hs0 h1.al
            have h3 := h1.s0
            have := ih2 (upN s (layN y).2 + (layN y).1) (max a (layN y).2) (fun z hz => hy z (List.mem_cons_of_mem _ hz)) (by omega)
            omega
        have hrm := hmono ts (upN 0 (layN x).2 + (layN x).1) (max 1 (layN x).2) (fun z hz => hels z (by rw [hl]; exact List.mem_cons_of_mem _ hz)) (by have := upN_bd (n := 0) (by omega) q1; omega)
        have hS : 1 ≤ (recF 0 1 t.l).1 := by
          rw [hl]; simp only [recF]
          have := upN_bd (n := 0) (by omega) q1
          omega
        have hP : P2 (recF 0 1 t.l).2 := by have := hsm.al; rw [e] at this; exact this
        have := upN_bd (n := (recF 0 1 t.l).1) (by omega) hP
        show 1 ≤ upN (recF 0 1 t.l).1 (recF 0 1 t.l).2
        omega
      · rw [e]
        have hb := upN_bd (n := 1) (by omega) hv2.1
        have := upN_bd (n := (varF 0 1 t.l).1 + upN 1 (varF 0 1 t.l).2) (by omega) hv2.1
        show 1 ≤ upN ((varF 0 1 t.l).1 + upN 1 (varF 0 1 t.l).2) (varF 0 1 t.l).2
        omega
      · rw [e]; exact hsm.al.pos.1
    · rcases layN_case hg hv2.1 with ⟨k, e⟩ | ⟨k, e⟩ | ⟨k, e⟩ | ⟨k, e⟩ | ⟨k, e⟩
      · exact absurd k hk0
      · rw [e]; decide
      · rw [e]; exact upN_mod _ _
      · rw [e]; exact upN_mod _ _
      · rw [e]; exact Int.emod_self
end Go.Proofs.YtaplmmhkpljmkaaDoor

/- Layer 13, the code: Case. -/
namespace Go.Proofs.YtaplmmhkpljmkaaDoor
open Go E
set_option maxRecDepth 100000
set_option maxHeartbeats 4000000
set_option linter.unusedVariables false
set_option linter.unusedSimpArgs false
attribute [local irreducible] Tri TriL TriO PO VO E.Pure DOb XOb
def varK (t : Ty) : Bool := decide (t.kind = 15 ∨ t.kind = 16 ∨ t.kind = 17 ∨ t.kind = 18)
theorem plainT_15 (t : Ty) : (plainT false t).kind = 15 ↔ varK t = true := by
  unfold plainT varK
  split
  · rename_i h; show (13 : Int) = 15 ↔ _; simp [h]
  split
  · rename_i h; show (15 : Int) = 15 ↔ _; simp [h]
  split
  · rename_i h; show (15 : Int) = 15 ↔ _; simp [h]
  split
  · rename_i h; show (15 : Int) = 15 ↔ _; simp [h]
  · simp; omega
theorem varF_s : ∀ (l : List Ty) (s s' a : Int), (varF s a l).2 = (varF s' a l).2
  | [], _, _, _ => rfl
  | t :: ts, s, s', a => by simp only [varF]; exact varF_s ts _ _ _
theorem case_p (HN : LexName) (t : Ty) (hs : small t) : E.Pure Tryd.prog 24 [encTy t] (.tup [.t (tInt (if mayB t && varK t then 1 else 0)), .t (tInt (if mayB t && varK t then (varF 0 1 (plainT false t).l).2 else 0))]) := by
  have hc := check_p HN t hs
  rw [encTy_eta t] at *
  cases hm : mayB t with
  | false =>
    simp only [hm, Bool.false_and, Bool.false_eq_true, if_false] at hc ⊢
    refine Pure.of2 Tryd.func24 rfl rfl (Nat.le_of_ble_eq_true rfl) rfl ?_
    repeat' (first | refine Tri.seq ?_ | refine Tri.reg ?_ | refine TriL.nil ?_ | (apply U.assignT; rfl; trivial; rfl) | (apply U.bin; rfl; trivial; rfl; trivial; rfl; rfl) | (apply U.loadS; rfl; rfl; trivial; rfl; rfl; rfl; rfl; rfl) | (apply U.boxA; rfl; rfl) | refine U.call1 rfl rfl (by assumption) rfl ?_ | refine Tri.ret ?_ | (refine Tri.cond rfl (fun h => ?_) (fun h => ?_) <;> (try simp at h) <;> (try contradiction)) | fail)
    exact Comes2.trees (.inr rfl) rfl rfl
  | true =>
    simp only [hm, Bool.true_and, if_true] at hc ⊢
    obtain ⟨hv, hp⟩ := may_vd hm
    have hd := hv.dim
    have hpl := plain_p t hd.nm hd.l
    have hg := hv.gdPlain false hp
    have hk := plainT_15 t
    generalize plainT false t = x at *
    rw [encTy_eta t, encTy_eta x] at hpl
    cases hvk : varK t with
    | false =>
      rw [hvk] at hk
      refine Pure.of2 Tryd.func24 rfl rfl (Nat.le_of_ble_eq_true rfl) rfl ?_
      repeat' (first | refine Tri.seq ?_ | refine Tri.reg ?_ | refine TriL.nil ?_ | (apply U.moveT; rfl; trivial; rfl) | (apply U.assignT; rfl; trivial; rfl) | (apply U.load; rfl; rfl; trivial; rfl; rfl; rfl) | (apply U.fld; rfl; trivial; rfl; infer_instance; decide; rfl) | (apply U.bin; rfl; trivial; rfl; trivial; rfl; rfl) | (apply U.len; rfl; trivial; rfl) | (apply U.loadS; rfl; rfl; trivial; rfl; rfl; rfl; rfl; rfl) | (apply U.boxA; rfl; rfl) | (apply U.storeS; rfl; rfl; rfl; rfl; rfl; rfl; rfl; rfl) | refine U.call1 rfl rfl (by assumption) rfl ?_ | refine Tri.skip ?_ | refine Tri.block ?_ | refine Tri.ret ?_ | (refine Tri.cond rfl (fun h => ?_) (fun h => ?_) <;> (try simp at h) <;> (try contradiction)) | fail)
      · exact Comes2.trees (.inr rfl) rfl rfl
      · exact absurd (hk.1 h) (by simp)
    | true =>
      have hk15 := hk.2 hvk
      have hlen := encTys_length x.l
      have hxl := hg.l
      have hels : ∀ y ∈ x.l, Sm y := fun y hy => layN_sm y (hg.el y hy).2
      have hv2 := varF_sm x.l 0 1 1 hels (by omega) P2_1 (by omega) (by omega) hg.sum
      have hlay : ∀ (i : Nat) (h : i < x.l.length), E.Pure Tryd.prog 42 [agTy x.l[i]] (.one (.t (cplx (layN x.l[i])))) := fun i h => by
        have := lay_p _ x.l[i] (Nat.le_refl _) (hg.el _ (List.getElem_mem h)).1 (hg.el _ (List.getElem_mem h)).2
        rwa [encTy_eta] at this
      have hby := bytes_p (((encTys x.l).length : Nat) : Int)
      rw [bytesN_1 (by omega)] at hby
      refine Pure.of2 Tryd.func24 rfl rfl (Nat.le_of_ble_eq_true rfl) rfl ?_
      repeat' (first | refine Tri.seq ?_ | refine Tri.reg ?_ | refine TriL.nil ?_ | (apply U.moveT; rfl; trivial; rfl) | (apply U.assignT; rfl; trivial; rfl) | (apply U.load; rfl; rfl; trivial; rfl; rfl; rfl) | (apply U.fld; rfl; trivial; rfl; infer_instance; decide; rfl) | (apply U.bin; rfl; trivial; rfl; trivial; rfl; rfl) | (apply U.len; rfl; trivial; rfl) | (apply U.loadS; rfl; rfl; trivial; rfl; rfl; rfl; rfl; rfl) | (apply U.boxA; rfl; rfl) | (apply U.storeS; rfl; rfl; rfl; rfl; rfl; rfl; rfl; rfl) | refine U.call1 rfl rfl (by assumption) rfl ?_ | refine Tri.skip ?_ | refine Tri.block ?_ | (refine Tri.cond rfl (fun h => ?_) (fun h => ?_) <;> (try simp at h) <;> (try contradiction)) | fail)
      refine Tri.loopL (α := Nat × Int) (fun a => ⟨[(19, .t (tInt a.1)), (18, .t (tInt x.l.length)), (17, .t (.sl x.nl (encTys x.l))), (4, .t (tInt a.2)), (1, .ptr 0 0)], Tryd.f24.ntmps, [(0, .obj [.t (.v (.int .i64 x.kind)), .t (.sl x.nn (x.names.map tStr)), .t (.sl x.nl (encTys x.l)), .t (.v (.int .i64 x.r))])], 0, 1⟩)
        (fun a => a.1 ≤ x.l.length ∧ (varF 0 1 x.l).2 = (varF 0 a.2 (x.l.drop a.1)).2 ∧ P2 a.2) (fun a => x.l.length - a.1) (0, 1) ?_ ?_ ?_
      · exact ⟨Nat.zero_le _, rfl, P2_1⟩
      · refine Sub.less (Sub.of rfl rfl ⟨rfl, ?_, rfl, rfl, rfl, trivial⟩ ⟨rfl, trivial⟩)
        rw [← hlen]; rfl
      · rintro ⟨i, a⟩ ⟨hi, hr, haP⟩
        dsimp only at hi hr haP ⊢
        repeat' (first | refine Tri.seq ?_ | refine Tri.reg ?_ | refine TriL.nil ?_ | (apply U.moveT; rfl; trivial; rfl) | (apply U.assignT; rfl; trivial; rfl) | (apply U.load; rfl; rfl; trivial; rfl; rfl; rfl) | (apply U.fld; rfl; trivial; rfl; infer_instance; decide; rfl) | (apply U.bin; rfl; trivial; rfl; trivial; rfl; rfl) | (apply U.len; rfl; trivial; rfl) | refine U.call1 rfl rfl (by assumption) rfl ?_ | refine Tri.skip ?_ | refine Tri.block ?_ | refine Tri.exit ?_ | (refine Tri.cond rfl (fun h => ?_) (fun h => ?_) <;> (try simp at h) <;> (try contradiction)) | fail)
        · have hlt : i < x.l.length := by omega
          have hget := get_ty hlt
          have hlay := hlay i hlt
          have hsm := hels _ (List.getElem_mem hlt)
          have hA := hsm.al.pos
          have hfA : floatToIntVal .f64 (fl (layN x.l[i]).2) .i64 = some (layN x.l[i]).2 := f2i (by omega) (by omega)
          have hd := List.drop_eq_getElem_cons hlt
          rw [hd, varF] at hr
          rw [varF_s _ _ 0] at hr
          repeat' (first | refine Tri.reg ?_ | refine TriL.nil ?_ | (apply U.moveT; rfl; trivial; rfl) | (apply U.assignT; rfl; trivial; rfl) | (apply U.add; rfl; trivial; rfl; trivial; exact fun _ => wrap_i64 (by omega) (by omega); rfl) | (apply U.loadES; rfl; rfl; trivial; rfl; rfl; rfl) | (apply U.loadS; rfl; rfl; trivial; rfl; rfl; rfl; rfl; rfl) | (apply U.idx; rfl; trivial; rfl; trivial; exact fun _ => (by omega); exact fun _ => (by assumption); exact fun _ => rfl; rfl) | (apply U.alloc; rfl; rfl; rfl; rfl) | (apply U.storeS; rfl; rfl; rfl; rfl; rfl; rfl; rfl; rfl) | (apply U.max; rfl; trivial; rfl; trivial; rfl) | (apply U.imag; rfl; trivial; rfl) | (apply U.f2i; rfl; trivial; exact fun _ => (by assumption); rfl) | refine U.call1 rfl rfl (by assumption) rfl ?_ | fail)
          exact ⟨(i + 1, max a (layN x.l[i]).2), ⟨hlt, hr.trans (varF_s _ _ _ _), haP.max hsm.al⟩, by dsimp only; omega, Sub.less (Sub.ofn (by decide) rfl ⟨rfl, rfl, rfl, rfl, rfl, trivial⟩ ⟨rfl, trivial⟩ rfl rfl)⟩
        · have : i = x.l.length := by omega
          subst this
          rw [List.drop_length, varF] at hr
          have hup := up_p 1 a (by omega) (by have := haP.pos; omega) (by omega) (by have := haP.pos; omega)
          rw [upN_1 haP] at hup
          repeat' (first | refine TriL.nil ?_ | (apply U.assignT; rfl; trivial; rfl) | refine U.call2 rfl rfl rfl (by assumption) rfl ?_ | refine Tri.ret ?_ | fail)
          rw [hr]
          exact Comes2.trees (.inr rfl) rfl rfl
end Go.Proofs.YtaplmmhkpljmkaaDoor

/- Layer 13: the law CtypeAligned answers true. -/
namespace Go.Proofs.YtaplmmhkpljmkaaDoor
open Go E
set_option maxRecDepth 100000
set_option maxHeartbeats 4000000
set_option linter.unusedVariables false
set_option linter.unusedSimpArgs false
attribute [local irreducible] Tri TriL TriO PO VO E.Pure DOb XOb
/-- What the walk needs of the places: where a field's predecessors end. -/
structure Pls (t : Ty) (pl : List Int) (e : Nat → Int) : Prop where
  zero : e 0 = 0
  end_ : 0 ≤ e pl.length ∧ e pl.length ≤ (layN t).1
  at_ : ∀ i (h : i < pl.length), ∃ h' : i < t.l.length, mayB t.l[i] = true ∧ pl[i] = upN (e i) (layN t.l[i]).2 ∧ e (i + 1) = pl[i] + (layN t.l[i]).1 ∧ e i ≤ pl[i] ∧ 0 ≤ e i ∧ pl[i] ≤ 8000 ∧ (pl[i]).tmod (layN t.l[i]).2 = 0 ∧ (layN t.l[i]).2 ≤ (layN t).2
theorem pls {t : Ty} (h : mayB t = true) : ∃ e, Pls t (placesN t) e := by
  obtain ⟨hP, hn1, hn2, hn3⟩ := lay_may _ t (Nat.le_refl _) h
  by_cases hk : t.kind = 13 ∨ t.kind = 14
  · have hpl : placesN t = plF 0 t.l := by unfold placesN; rw [if_pos hk]
    rw [hpl]
    have hlay : layN t = (upN (recF 0 1 t.l).1 (recF 0 1 t.l).2, (recF 0 1 t.l).2) := by
      rw [layN_eq, layK]; rcases hk with e | e <;> rw [e] <;> rfl
    have hel : ∀ x ∈ t.l, mayB x = true := fun x hx => by
      rcases may_el h hx with ⟨_, q⟩ | q
      · omega
      · exact q
    have hPr : P2 (recF 0 1 t.l).2 := by rw [hlay] at hP; exact hP
    have step : ∀ i (hi : i < t.l.length), 0 ≤ enF t.l i → enF t.l i ≤ upN (enF t.l i) (layN t.l[i]).2 ∧ upN (enF t.l i) (layN t.l[i]).2 ≤ enF t.l (i + 1) := fun i hi h0 => by
      obtain ⟨q1, q2, q3, q4⟩ := lay_may _ t.l[i] (Nat.le_refl _) (hel _ (List.getElem_mem hi))
      have := upN_bd h0 q1
      rw [enF_succ hi]
      omega
    have nonneg : ∀ i, i ≤ t.l.length → 0 ≤ enF t.l i := fun i => by
      induction i with
      | zero => intro _; simp [enF, recF]
      | succ i ih => intro hi; have := step i (by omega) (ih (by omega)); have := ih (by omega); omega
    have mono : ∀ i d, i + d ≤ t.l.length → enF t.l i ≤ enF t.l (i + d) := fun i d => by
      induction d with
      | zero => intro _; exact Int.le_refl _
      | succ d ih => intro hi; have := step (i + d) (by omega) (nonneg _ (by omega)); have := ih (by omega); rw [show i + (d + 1) = i + d + 1 by omega]; omega
    have hlast : enF t.l t.l.length ≤ (layN t).1 := by
      rw [hlay]
      show _ ≤ upN (recF 0 1 t.l).1 (recF 0 1 t.l).2
      have := nonneg t.l.length (Nat.le_refl _)
      unfold enF at this ⊢
      rw [List.take_length] at this ⊢
      exact (upN_bd this hPr).1
    refine ⟨enF t.l, by simp [enF, recF], by rw [plF_len]; exact ⟨nonneg _ (Nat.le_refl _), hlast⟩, fun i hi => ?_⟩
    rw [plF_len] at hi
    have hg := plF_get 1 0 t.l i hi
    have hget : (plF 0 t.l)[i]'(by rw [plF_len]; exact hi) = upN (enF t.l i) (layN t.l[i]).2 := by
      rw [List.getElem?_eq_getElem (by rw [plF_len]; exact hi)] at hg
      exact Option.some.inj hg
    have hs := step i hi (nonneg i (by omega))
    have hm := mono (i + 1) (t.l.length - (i + 1)) (by omega)
    rw [show i + 1 + (t.l.length - (i + 1)) = t.l.length by omega] at hm
    have h0 := nonneg i (by omega)
    refine ⟨hi, hel _ (List.getElem_mem hi), hget, by rw [hget, enF_succ hi], by rw [hget]; exact hs.1, h0, by rw [hget]; omega, ?_, ?_⟩
    · rw [hget, Int.tmod_eq_emod_of_nonneg (by omega)]; exact upN_mod _ _
    · rw [hlay]; exact (recF_al t.l 0 1).2 _ (List.getElem_mem hi)
  · have hpl : placesN t = [] := by unfold placesN; rw [if_neg hk]
    rw [hpl]
    exact ⟨fun _ => 0, rfl, ⟨Int.le_refl _, by show (0 : Int) ≤ _; omega⟩, fun i hi => absurd hi (Nat.not_lt_zero i)⟩
theorem P2.tmod {a b : Int} (ha : P2 a) (hb : P2 b) (h : a ≤ b) : b.tmod a = 0 := by
  rw [Int.tmod_eq_emod_of_nonneg (by have := hb.pos; omega)]; exact ha.dvd hb h
theorem ctypeAligned_p (t : Ty) (ht : small t) : E.Pure Tryd.prog 5 [encTy t] (.one (.t (tBool true))) := by
  have h2 := may_p t ht
  have h5 := awake_p lexName_p
  have hsz := size_p lexName_p t ht
  have hal := align_p lexName_p t ht
  have hpl := places_p lexName_p t ht
  have hcs := case_p lexName_p t ht
  rw [encTy_eta] at *
  cases hm : mayB t with
  | false =>
    rw [hm] at h2
    refine Pure.of1 Tryd.func5 rfl rfl (Nat.le_of_ble_eq_true rfl) rfl ?_
    repeat' (first | refine Tri.seq ?_ | refine Tri.reg ?_ | refine TriL.nil ?_ | (apply U.assignT; rfl; trivial; rfl) | (apply U.loadS; rfl; rfl; trivial; rfl; rfl; rfl; rfl; rfl) | (apply U.not; rfl; trivial; rfl) | (apply U.boxA; rfl; rfl) | refine U.call1 rfl rfl (by assumption) rfl ?_ | refine Tri.ret ?_ | refine U.call0 rfl (by assumption) rfl ?_ | (refine Tri.cond rfl (fun h => ?_) (fun h => ?_) <;> (try simp at h) <;> (try contradiction)) | fail)
    exact Comes1.ret rfl rfl
  | true =>
    simp only [hm, if_true, Bool.true_and] at h2 hsz hal hpl hcs
    obtain ⟨hP, hn1, hn2, hn3⟩ := lay_may _ t (Nat.le_refl _) hm
    have hmod : (layN t).1.tmod (layN t).2 = 0 := by rw [Int.tmod_eq_emod_of_nonneg (by omega)]; exact hn3
    obtain ⟨e, he⟩ := pls hm
    have hby := hP.pos
    have hne : (layN t).2 ≠ 0 := by omega
    generalize placesN t = pl at *
    have hblen := small_l ht
    unfold big at hblen
    have hlen := encTys_length t.l
    have hlen2 : (pl.map tInt).length = pl.length := by simp
    refine Pure.of1 Tryd.func5 rfl rfl (Nat.le_of_ble_eq_true rfl) rfl ?_
    repeat' (first | refine Tri.seq ?_ | refine Tri.reg ?_ | refine TriL.nil ?_ | (apply U.assignT; rfl; trivial; rfl) | (apply U.loadS; rfl; rfl; trivial; rfl; rfl; rfl; rfl; rfl) | (apply U.not; rfl; trivial; rfl) | (apply U.boxA; rfl; rfl) | refine U.call1 rfl rfl (by assumption) rfl ?_ | refine Tri.skip ?_ | (refine Tri.cond rfl (fun h => ?_) (fun h => ?_) <;> (try simp at h) <;> (try contradiction)) | fail)
    refine Tri.regX mixed (by kernel_rfl) rfl rfl ?_
    repeat' (first | refine Tri.seq ?_ | refine Tri.reg ?_ | refine TriL.nil ?_ | exact Yes.mk rfl | refine X.nil ?_ | (apply X.a; rfl) | exact ⟨rfl, rfl, rfl⟩ | (apply U.moveT; rfl; trivial; rfl) | (apply U.assignT; rfl; trivial; rfl) | (apply U.bin; rfl; trivial; rfl; trivial; rfl; rfl) | (apply U.loadS; rfl; rfl; trivial; rfl; rfl; rfl; rfl; rfl) | (apply U.pickb; rfl; trivial; rfl; (first | trivial | exact id | exact And.right | exact gvA | exact gvB | exact And.left | exact gvN | exact gvP2 | exact gvN2 | exact gvLA); rfl; (first | trivial | exact id | exact And.right | exact gvA | exact gvB | exact And.left | exact gvN | exact gvP2 | exact gvN2 | exact gvLA); rfl) | (apply G.moveT; rfl; (first | trivial | exact id | exact And.right | exact gvA | exact gvB | exact And.left | exact gvN | exact gvP2 | exact gvN2 | exact gvLA); rfl; rfl; rfl) | (apply G.rem; rfl; (first | trivial | exact id | exact And.right | exact gvA | exact gvB | exact And.left | exact gvN | exact gvP2 | exact gvN2 | exact gvLA); rfl; (first | trivial | exact id | exact And.right | exact gvA | exact gvB | exact And.left | exact gvN | exact gvP2 | exact gvN2 | exact gvLA); exact fun _ => (by omega); rfl; rfl; rfl) | (apply G.bin; rfl; (first | trivial | exact id | exact And.right | exact gvA | exact gvB | exact And.left | exact gvN | exact gvP2 | exact gvN2 | exact gvLA); rfl; (first | trivial | exact id | exact And.right | exact gvA | exact gvB | exact And.left | exact gvN | exact gvP2 | exact gvN2 | exact gvLA); rfl; rfl; rfl; rfl) | refine U.call1 rfl rfl (by assumption) rfl ?_ | refine Tri.skip ?_ | refine Tri.block ?_ | refine Tri.ret ?_ | (refine Tri.cond rfl (fun h => ?_) (fun h => ?_) <;> (try simp at h) <;> (try contradiction)) | fail)
    · exfalso
      have := hP
      unfold P2 at this
      omega
    refine Tri.loopL (α := Nat) (fun i => ⟨[(7, .t (tInt i)), (6, .t (tInt (e i))), (5, .t (iT pl)), (4, .t (tInt (layN t).2)), (3, .t (tInt (layN t).1)), (1, .ptr 0 0)], Tryd.f5.ntmps, [(0, .obj [.t (.v (.int .i64 t.kind)), .t (.sl t.nn (t.names.map tStr)), .t (.sl t.nl (encTys t.l)), .t (.v (.int .i64 t.r))])], 0, 1⟩)
      (fun i => i ≤ pl.length) (fun i => pl.length - i) 0 (Nat.zero_le _) ?_ ?_
    · refine Sub.less (Sub.of rfl rfl ⟨rfl, ?_, rfl, rfl, rfl, rfl, trivial⟩ ⟨rfl, trivial⟩)
      rw [he.zero]; rfl
    · intro i hi
      repeat' (first | refine Tri.seq ?_ | refine Tri.reg ?_ | refine TriL.nil ?_ | (apply U.moveT; rfl; trivial; rfl) | (apply U.assignT; rfl; trivial; rfl) | (apply U.moveU; rfl; trivial; rfl) | (apply U.load; rfl; rfl; trivial; rfl; rfl; rfl) | (apply U.fld; rfl; trivial; rfl; infer_instance; decide; rfl) | (apply U.bin; rfl; trivial; rfl; trivial; rfl; rfl) | (apply U.len; rfl; trivial; rfl) | (apply U.loadS; rfl; rfl; trivial; rfl; rfl; rfl; rfl; rfl) | (apply U.ext; rfl; trivial; rfl; rfl) | (apply U.pickb; rfl; trivial; rfl; (first | trivial | exact id | exact And.right | exact gvA | exact gvB | exact And.left | exact gvN | exact gvP2 | exact gvN2 | exact gvLA); rfl; (first | trivial | exact id | exact And.right | exact gvA | exact gvB | exact And.left | exact gvN | exact gvP2 | exact gvN2 | exact gvLA); rfl) | refine Tri.skip ?_ | refine Tri.block ?_ | refine Tri.exit ?_ | refine Tri.ret ?_ | refine G.call0 rfl (by first | assumption | exact fun _ => by assumption) rfl rfl rfl ?_ | refine U.callP1 rfl rfl (by assumption) rfl ?_ | (refine Tri.cond rfl (fun h => ?_) (fun h => ?_) <;> (try simp at h) <;> (try contradiction)) | fail)
      · exfalso
        obtain ⟨h', _⟩ := he.at_ i (by omega)
        omega
      · have hlp : i < pl.length := by omega
        obtain ⟨hlt, f1, f2, f3, f4, f5, f6, f7, f8⟩ := he.at_ i hlp
        have hget := get_ty hlt
        have hgetp : (pl.map tInt)[((i : Nat) : Int).toNat]? = some (tInt pl[i]) := by simp [hlp]
        obtain ⟨q1, q2, q3, q4⟩ := lay_may _ t.l[i] (Nat.le_refl _) f1
        have hqp := q1.pos
        have hsz2 := size_p lexName_p t.l[i] (smalls_get (small_ls ht) (List.getElem?_eq_getElem hlt))
        have hal2 := align_p lexName_p t.l[i] (smalls_get (small_ls ht) (List.getElem?_eq_getElem hlt))
        simp only [f1, if_true] at hsz2 hal2
        rw [encTy_eta] at hsz2 hal2
        have hm2 := q1.tmod hP f8
        have hne2 : (layN t.l[i]).2 ≠ 0 := by omega
        repeat' (first | refine Tri.seq ?_ | refine Tri.reg ?_ | refine TriL.nil ?_ | (apply U.moveT; rfl; trivial; rfl) | (apply U.assignT; rfl; trivial; rfl) | (apply U.bin; rfl; trivial; rfl; trivial; rfl; rfl) | (apply U.loadES; rfl; rfl; trivial; rfl; rfl; rfl) | (apply U.pickb; rfl; trivial; rfl; (first | trivial | exact id | exact And.right | exact gvA | exact gvB | exact And.left | exact gvN | exact gvP2 | exact gvN2 | exact gvLA); rfl; (first | trivial | exact id | exact And.right | exact gvA | exact gvB | exact And.left | exact gvN | exact gvP2 | exact gvN2 | exact gvLA); rfl) | (apply U.idx; rfl; trivial; rfl; trivial; exact fun _ => (by omega); exact fun _ => (by assumption); exact fun _ => rfl; rfl) | (apply G.moveT; rfl; (first | trivial | exact id | exact And.right | exact gvA | exact gvB | exact And.left | exact gvN | exact gvP2 | exact gvN2 | exact gvLA); rfl; rfl; rfl) | (apply G.rem; rfl; (first | trivial | exact id | exact And.right | exact gvA | exact gvB | exact And.left | exact gvN | exact gvP2 | exact gvN2 | exact gvLA); rfl; (first | trivial | exact id | exact And.right | exact gvA | exact gvB | exact And.left | exact gvN | exact gvP2 | exact gvN2 | exact gvLA); exact fun _ => (by omega); rfl; rfl; rfl) | (apply G.bin; rfl; (first | trivial | exact id | exact And.right | exact gvA | exact gvB | exact And.left | exact gvN | exact gvP2 | exact gvN2 | exact gvLA); rfl; (first | trivial | exact id | exact And.right | exact gvA | exact gvB | exact And.left | exact gvN | exact gvP2 | exact gvN2 | exact gvLA); rfl; rfl; rfl; rfl) | (apply G.loadE; rfl; rfl; (first | trivial | exact id | exact And.right | exact gvA | exact gvB | exact And.left | exact gvN | exact gvP2 | exact gvN2 | exact gvLA); rfl; rfl; rfl; rfl) | (apply G.idx; rfl; (first | trivial | exact id | exact And.right | exact gvA | exact gvB | exact And.left | exact gvN | exact gvP2 | exact gvN2 | exact gvLA); rfl; (first | trivial | exact id | exact And.right | exact gvA | exact gvB | exact And.left | exact gvN | exact gvP2 | exact gvN2 | exact gvLA); exact fun _ => (by omega); exact fun _ => (by assumption); exact fun _ => rfl; rfl; rfl; rfl) | refine U.call1 rfl rfl (by assumption) rfl ?_ | refine Tri.skip ?_ | refine Tri.ret ?_ | (refine Tri.cond rfl (fun h => ?_) (fun h => ?_) <;> (try simp at h) <;> (try contradiction)) | fail)
        · exfalso
          omega
        · refine Tri.regX mixed (by kernel_rfl) rfl rfl ?_
          repeat' (first | refine Tri.reg ?_ | refine TriL.nil ?_ | exact Yes.mk rfl | refine X.nil ?_ | (apply X.a; rfl) | exact ⟨rfl, rfl, rfl⟩ | (apply U.moveT; rfl; trivial; rfl) | (apply U.assignT; rfl; trivial; rfl) | (apply U.load; rfl; rfl; trivial; rfl; rfl; rfl) | (apply U.fld; rfl; trivial; rfl; infer_instance; decide; rfl) | (apply U.add; rfl; trivial; rfl; trivial; exact fun _ => wrap_i64 (by omega) (by omega); rfl) | (apply U.loadE; rfl; rfl; trivial; rfl; rfl) | (apply U.loadES; rfl; rfl; trivial; rfl; rfl; rfl) | (apply U.idx; rfl; trivial; rfl; trivial; exact fun _ => (by omega); exact fun _ => (by assumption); exact fun _ => rfl; rfl) | refine U.call1 rfl rfl (by assumption) rfl ?_ | fail)
          refine ⟨i + 1, hlp, by omega, Sub.less (Sub.of rfl rfl ⟨rfl, ?_, rfl, rfl, rfl, rfl, trivial⟩ ⟨rfl, trivial⟩)⟩
          rw [f3]; rfl
      · have hvk : varK t = true := by
          cases hv : varK t with
          | true => rfl
          | false => rw [hv] at h; simp at h
        simp only [hvk, if_true]
        have hi' : i = pl.length := by omega
        subst hi'
        obtain ⟨hv, hp⟩ := may_vd hm
        have hpl2 := plain_p t hv.dim.nm hv.dim.l
        have hg := hv.gdPlain false hp
        have hk15 := (plainT_15 t).2 hvk
        have hsx := small_plain false ht hv.dim
        have hels : ∀ y ∈ (plainT false t).l, Sm y := fun y hy => layN_sm y (hg.el y hy).2
        have hv2 := varF_sm (plainT false t).l 0 1 1 hels (by omega) P2_1 (by omega) (by omega) hg.sum
        have hlx : layN t = (upN ((varF 0 1 (plainT false t).l).1 + upN 1 (varF 0 1 (plainT false t).l).2) (varF 0 1 (plainT false t).l).2, (varF 0 1 (plainT false t).l).2) := by
          rw [← layN_plain t false]
          rcases layN_case hg hv2.1 with ⟨k, e⟩ | ⟨k, e⟩ | ⟨k, e⟩ | ⟨k, e⟩ | ⟨k, e⟩ <;> first | exact e | (exfalso; omega)
        have hfit : (varF 0 1 (plainT false t).l).1 + (varF 0 1 (plainT false t).l).2 ≤ (layN t).1 := by
          rw [hlx]
          have := upN_bd (n := (varF 0 1 (plainT false t).l).1 + upN 1 (varF 0 1 (plainT false t).l).2) (by have := hv2.1.pos; rw [upN_1 hv2.1]; omega) hv2.1
          have h2 := upN_1 hv2.1
          show _ ≤ upN ((varF 0 1 (plainT false t).l).1 + upN 1 (varF 0 1 (plainT false t).l).2) (varF 0 1 (plainT false t).l).2
          omega
        have hin := varF_al (plainT false t).l 0 1
        have hmel : ∀ y ∈ (plainT false t).l, y.kind ≠ 0 → mayB y = true := fun y hy hy0 => by
          rcases plainT_el hy with e | e
          · rw [e] at hy0; exact absurd rfl hy0
          · rcases may_el hm e with ⟨q, _⟩ | q
            · exact absurd (noneT_spec q).1 hy0
            · exact q
        have hPA := hv2.1
        have hend := he.end_
        have hsm0 := hg.l
        generalize (varF 0 1 (plainT false t).l).2 = A at *
        generalize (varF 0 1 (plainT false t).l).1 = V at *
        generalize plainT false t = x at *
        have hlenx := encTys_length x.l
        have hApos := hPA.pos
        rw [encTy_eta t, encTy_eta x] at hpl2
        clear hal hsz hpl hcs h2 hlen hlen2
        repeat' (first | refine Tri.seq ?_ | refine Tri.reg ?_ | refine TriL.nil ?_ | (apply U.assignT; rfl; trivial; rfl) | (apply U.alloc; rfl; rfl; rfl; rfl) | (apply U.storeS; rfl; rfl; rfl; rfl; rfl; rfl; rfl; rfl) | refine U.call1 rfl rfl (by assumption) rfl ?_ | refine Tri.block ?_ | fail)
        refine Tri.loopL (α := Nat) (fun j => ⟨[(12, .t (tInt j)), (11, .ptr 1 0), (10, .t (tInt A)), (9, .t (tInt 1)), (6, .t (tInt (e pl.length))), (3, .t (tInt (layN t).1))], Tryd.f5.ntmps, [(1, .obj [.t (.v (.int .i64 x.kind)), .t (.sl x.nn (x.names.map tStr)), .t (.sl x.nl (encTys x.l)), .t (.v (.int .i64 x.r))])], 0, 2⟩)
          (fun j => j ≤ x.l.length) (fun j => x.l.length - j) 0 (Nat.zero_le _) ?_ ?_
        · exact Sub.less (Sub.of rfl rfl ⟨rfl, rfl, rfl, rfl, rfl, rfl, trivial⟩ ⟨rfl, trivial⟩)
        · intro j hj
          repeat' (first | refine Tri.seq ?_ | refine Tri.reg ?_ | refine TriL.nil ?_ | (apply U.moveT; rfl; trivial; rfl) | (apply U.assignT; rfl; trivial; rfl) | (apply U.load; rfl; rfl; trivial; rfl; rfl; rfl) | (apply U.fld; rfl; trivial; rfl; infer_instance; decide; rfl) | (apply U.bin; rfl; trivial; rfl; trivial; rfl; rfl) | (apply U.len; rfl; trivial; rfl) | (apply U.pickb; rfl; trivial; rfl; (first | trivial | exact id | exact And.right | exact gvA | exact gvB | exact And.left | exact gvN | exact gvP2 | exact gvN2 | exact gvLA); rfl; (first | trivial | exact id | exact And.right | exact gvA | exact gvB | exact And.left | exact gvN | exact gvP2 | exact gvN2 | exact gvLA); rfl) | refine Tri.skip ?_ | refine Tri.block ?_ | refine Tri.exit ?_ | refine Tri.ret ?_ | refine G.call0 rfl (by first | assumption | exact fun _ => by assumption) rfl rfl rfl ?_ | (refine Tri.cond rfl (fun h => ?_) (fun h => ?_) <;> (try simp at h) <;> (try contradiction)) | fail)
          · have hjx : j < x.l.length := by omega
            have hget := get_ty hjx
            have hmem := List.getElem_mem hjx
            have hsz2 := size_p lexName_p x.l[j] (smalls_get (small_ls hsx) (List.getElem?_eq_getElem hjx))
            have hal2 := align_p lexName_p x.l[j] (smalls_get (small_ls hsx) (List.getElem?_eq_getElem hjx))
            rw [encTy_eta] at hsz2 hal2
            by_cases hk0 : x.l[j].kind = 0
            · simp only [agTy, hk0] at hget hsz2 hal2
              repeat' (first | refine Tri.reg ?_ | refine TriL.nil ?_ | (apply U.moveT; rfl; trivial; rfl) | (apply U.assignT; rfl; trivial; rfl) | (apply U.add; rfl; trivial; rfl; trivial; exact fun _ => wrap_i64 (by omega) (by omega); rfl) | (apply U.bin; rfl; trivial; rfl; trivial; rfl; rfl) | (apply U.loadE; rfl; rfl; trivial; rfl; rfl) | (apply U.fldE; rfl; trivial; rfl; infer_instance; decide; rfl) | (apply U.pickb; rfl; trivial; rfl; (first | trivial | exact id | exact And.right | exact gvA | exact gvB | exact And.left | exact gvN | exact gvP2 | exact gvN2 | exact gvLA); rfl; (first | trivial | exact id | exact And.right | exact gvA | exact gvB | exact And.left | exact gvN | exact gvP2 | exact gvN2 | exact gvLA); rfl) | (apply U.idx; rfl; trivial; rfl; trivial; exact fun _ => (by omega); exact fun _ => (by assumption); exact fun _ => rfl; rfl) | (apply G.moveT; rfl; (first | trivial | exact id | exact And.right | exact gvA | exact gvB | exact And.left | exact gvN | exact gvP2 | exact gvN2 | exact gvLA); rfl; rfl; rfl) | (apply G.load; rfl; rfl; (first | trivial | exact id | exact And.right | exact gvA | exact gvB | exact And.left | exact gvN | exact gvP2 | exact gvN2 | exact gvLA); rfl; rfl; rfl; rfl; rfl) | (apply G.fld; rfl; (first | trivial | exact id | exact And.right | exact gvA | exact gvB | exact And.left | exact gvN | exact gvP2 | exact gvN2 | exact gvLA); rfl; infer_instance; decide; rfl; rfl; rfl) | (apply G.bin; rfl; (first | trivial | exact id | exact And.right | exact gvA | exact gvB | exact And.left | exact gvN | exact gvP2 | exact gvN2 | exact gvLA); rfl; (first | trivial | exact id | exact And.right | exact gvA | exact gvB | exact And.left | exact gvN | exact gvP2 | exact gvN2 | exact gvLA); rfl; rfl; rfl; rfl) | (apply G.loadES; rfl; rfl; (first | trivial | exact id | exact And.right | exact gvA | exact gvB | exact And.left | exact gvN | exact gvP2 | exact gvN2 | exact gvLA); rfl; rfl; rfl; rfl; rfl) | (apply G.idx; rfl; (first | trivial | exact id | exact And.right | exact gvA | exact gvB | exact And.left | exact gvN | exact gvP2 | exact gvN2 | exact gvLA); rfl; (first | trivial | exact id | exact And.right | exact gvA | exact gvB | exact And.left | exact gvN | exact gvP2 | exact gvN2 | exact gvLA); exact fun _ => (by omega); exact fun _ => (by assumption); exact fun _ => rfl; rfl; rfl; rfl) | (apply G.pickb; rfl; (first | trivial | exact id | exact And.right | exact gvA | exact gvB | exact And.left | exact gvN | exact gvP2 | exact gvN2 | exact gvLA); rfl; (first | trivial | exact id | exact And.right | exact gvA | exact gvB | exact And.left | exact gvN | exact gvP2 | exact gvN2 | exact gvLA); rfl; (first | trivial | exact id | exact And.right | exact gvA | exact gvB | exact And.left | exact gvN | exact gvP2 | exact gvN2 | exact gvLA); rfl; rfl; rfl) | refine G.call1 rfl rfl (by (first | trivial | exact id | exact And.right | exact gvA | exact gvB | exact And.left | exact gvN | exact gvP2 | exact gvN2 | exact gvLA)) (by first | assumption | exact fun _ => by assumption) rfl rfl rfl ?_ | refine Tri.skip ?_ | (apply G.rem; rfl; (first | trivial | exact id | exact And.right | exact gvA | exact gvB | exact And.left | exact gvN | exact gvP2 | exact gvN2 | exact gvLA); rfl; (first | trivial | exact id | exact And.right | exact gvA | exact gvB | exact And.left | exact gvN | exact gvP2 | exact gvN2 | exact gvLA); exact fun h_ => (by first | omega | (simp at h_; done) | (simp at h_; omega)); rfl; rfl; rfl) | (refine Tri.cond rfl (fun h => ?_) (fun h => ?_) <;> (try simp at h) <;> (try contradiction)) | fail)
              all_goals (first | (exfalso; simp at *; done) | exact ⟨j + 1, hjx, by omega, Sub.less (Sub.of rfl rfl ⟨rfl, rfl, rfl, rfl, rfl, rfl, trivial⟩ ⟨rfl, trivial⟩)⟩)
            · have hmx := hmel _ hmem hk0
              obtain ⟨q1, q2, q3, q4⟩ := lay_may _ x.l[j] (Nat.le_refl _) hmx
              have hqp := q1.pos
              simp only [hmx, if_true] at hsz2 hal2
              have hi2 := hin.2 _ hmem
              have hm2 := q1.tmod hPA hi2.1
              have hne2 : (layN x.l[j]).2 ≠ 0 := by omega
              repeat' (first | refine Tri.seq ?_ | refine Tri.reg ?_ | refine TriL.nil ?_ | (apply U.moveT; rfl; trivial; rfl) | (apply U.assignT; rfl; trivial; rfl) | (apply U.add; rfl; trivial; rfl; trivial; exact fun _ => wrap_i64 (by omega) (by omega); rfl) | (apply U.bin; rfl; trivial; rfl; trivial; rfl; rfl) | (apply U.loadE; rfl; rfl; trivial; rfl; rfl) | (apply U.fldE; rfl; trivial; rfl; infer_instance; decide; rfl) | (apply U.pickb; rfl; trivial; rfl; (first | trivial | exact id | exact And.right | exact gvA | exact gvB | exact And.left | exact gvN | exact gvP2 | exact gvN2 | exact gvLA); rfl; (first | trivial | exact id | exact And.right | exact gvA | exact gvB | exact And.left | exact gvN | exact gvP2 | exact gvN2 | exact gvLA); rfl) | (apply U.idx; rfl; trivial; rfl; trivial; exact fun _ => (by omega); exact fun _ => (by assumption); exact fun _ => rfl; rfl) | (apply G.moveT; rfl; (first | trivial | exact id | exact And.right | exact gvA | exact gvB | exact And.left | exact gvN | exact gvP2 | exact gvN2 | exact gvLA); rfl; rfl; rfl) | (apply G.load; rfl; rfl; (first | trivial | exact id | exact And.right | exact gvA | exact gvB | exact And.left | exact gvN | exact gvP2 | exact gvN2 | exact gvLA); rfl; rfl; rfl; rfl; rfl) | (apply G.fld; rfl; (first | trivial | exact id | exact And.right | exact gvA | exact gvB | exact And.left | exact gvN | exact gvP2 | exact gvN2 | exact gvLA); rfl; infer_instance; decide; rfl; rfl; rfl) | (apply G.add; rfl; (first | trivial | exact id | exact And.right | exact gvA | exact gvB | exact And.left | exact gvN | exact gvP2 | exact gvN2 | exact gvLA); rfl; (first | trivial | exact id | exact And.right | exact gvA | exact gvB | exact And.left | exact gvN | exact gvP2 | exact gvN2 | exact gvLA); exact fun _ => wrap_i64 (by omega) (by omega); rfl; rfl; rfl) | (apply G.rem; rfl; (first | trivial | exact id | exact And.right | exact gvA | exact gvB | exact And.left | exact gvN | exact gvP2 | exact gvN2 | exact gvLA); rfl; (first | trivial | exact id | exact And.right | exact gvA | exact gvB | exact And.left | exact gvN | exact gvP2 | exact gvN2 | exact gvLA); exact fun _ => (by omega); rfl; rfl; rfl) | (apply G.bin; rfl; (first | trivial | exact id | exact And.right | exact gvA | exact gvB | exact And.left | exact gvN | exact gvP2 | exact gvN2 | exact gvLA); rfl; (first | trivial | exact id | exact And.right | exact gvA | exact gvB | exact And.left | exact gvN | exact gvP2 | exact gvN2 | exact gvLA); rfl; rfl; rfl; rfl) | (apply G.loadES; rfl; rfl; (first | trivial | exact id | exact And.right | exact gvA | exact gvB | exact And.left | exact gvN | exact gvP2 | exact gvN2 | exact gvLA); rfl; rfl; rfl; rfl; rfl) | (apply G.idx; rfl; (first | trivial | exact id | exact And.right | exact gvA | exact gvB | exact And.left | exact gvN | exact gvP2 | exact gvN2 | exact gvLA); rfl; (first | trivial | exact id | exact And.right | exact gvA | exact gvB | exact And.left | exact gvN | exact gvP2 | exact gvN2 | exact gvLA); exact fun _ => (by omega); exact fun _ => (by assumption); exact fun _ => rfl; rfl; rfl; rfl) | (apply G.pickb; rfl; (first | trivial | exact id | exact And.right | exact gvA | exact gvB | exact And.left | exact gvN | exact gvP2 | exact gvN2 | exact gvLA); rfl; (first | trivial | exact id | exact And.right | exact gvA | exact gvB | exact And.left | exact gvN | exact gvP2 | exact gvN2 | exact gvLA); rfl; (first | trivial | exact id | exact And.right | exact gvA | exact gvB | exact And.left | exact gvN | exact gvP2 | exact gvN2 | exact gvLA); rfl; rfl; rfl) | refine G.call1 rfl rfl (by (first | trivial | exact id | exact And.right | exact gvA | exact gvB | exact And.left | exact gvN | exact gvP2 | exact gvN2 | exact gvLA)) (by first | assumption | exact fun _ => by assumption) rfl rfl rfl ?_ | refine Tri.skip ?_ | refine Tri.ret ?_ | (refine Tri.cond rfl (fun h => ?_) (fun h => ?_) <;> (try simp at h) <;> (try contradiction)) | fail)
              · exfalso; omega
              · exact ⟨j + 1, hjx, by omega, Sub.less (Sub.of rfl rfl ⟨rfl, rfl, rfl, rfl, rfl, rfl, trivial⟩ ⟨rfl, trivial⟩)⟩
          · refine Comes1.ret rfl (retB ?_)
            simp [hend.2]
      · refine Comes1.ret rfl (retB ?_)
        have hi' : i = pl.length := by omega
        subst hi'
        have := he.end_
        simp [this.2]
end Go.Proofs.YtaplmmhkpljmkaaDoor
