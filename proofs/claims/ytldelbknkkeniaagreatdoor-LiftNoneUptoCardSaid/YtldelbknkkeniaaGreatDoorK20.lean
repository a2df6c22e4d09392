/- Layer 13: the core types of a row of types, as a list of the caller's own. -/
import Derived.Test.YtldelbknkkeniaaGreatDoorK18
import Derived.Test.YtldelbknkkeniaaGreatDoorK19
namespace Go.Proofs.YtldelbknkkeniaaGreatDoor
open Go E
set_option maxRecDepth 100000
set_option maxHeartbeats 4000000
set_option linter.unusedVariables false
set_option linter.unusedSimpArgs false
attribute [local irreducible] Tri TriL TriO PO VO E.Pure DOb XOb
/-- A list that is the caller's own, unless it is nil. -/
def ownI (l : List Int) : R1 := match l with
  | [] => .t (.sl true [])
  | y :: ys => .own 1 ((y :: ys).map tInt)
theorem Comes1.retI {t : Tmp} {s : St} {b len cap : Nat} {y : Int} {ys zs : List Int} (h : evt s.tm (.tmp t) = .ref b 1 0 len cap) (hb : E.look b s.heap = some (.row 1 ((y :: ys).map tInt) false)) (hl : len = (y :: ys).length) (hz : y :: ys = zs) : Comes1 t (ownI zs) .ret s := by
  subst hz
  exact Comes1.retO h hb (by simp [hl]) (by rw [hl, List.take_of_length_le (by simp)]; rfl)
theorem flat_own (nl : Bool) (l : List Ty) (hl : l.length ≤ 64)
    (hel : ∀ (i : Nat) (h : i < l.length), E.Pure Tryz.prog 61 [agTy l[i]] (.one (.t (iT (flN l[i]))))) (hfl : ∀ y ∈ l, (flN y).length ≤ 1000) (hrow : (rowN l).length ≤ 1000000) :
    E.Pure Tryz.prog 61 [.agg [.v (.int .i64 13), .sl true [], .sl nl (encTys l), .v (.int .i64 0)]] (.one (ownI (rowN l))) := by
  have hlen := encTys_length l
  have hpl := plain_p (.mk 13 true [] nl l 0) (show 0 ≤ 64 by decide) hl
  rw [show plainT false (.mk 13 true [] nl l 0) = .mk 13 true [] nl l 0 from rfl] at hpl
  have he : encTy (.mk 13 true [] nl l 0) = .agg [.v (.int .i64 13), .sl true [], .sl nl (encTys l), .v (.int .i64 0)] := by simp [encTy]
  rw [he] at hpl
  refine Pure.of1 Tryz.func61 rfl rfl (Nat.le_of_ble_eq_true rfl) rfl ?_
  repeat' (first | refine Tri.seq ?_ | refine Tri.reg ?_ | refine TriL.nil ?_ | (apply U.moveT; rfl; trivial; rfl) | (apply U.assignT; rfl; trivial; rfl) | (apply U.load; rfl; rfl; trivial; rfl; rfl; rfl) | (apply U.fld; rfl; trivial; rfl; infer_instance; decide; rfl) | (apply U.bin; rfl; trivial; rfl; trivial; rfl; rfl) | (apply U.len; rfl; trivial; rfl) | (apply U.loadS; rfl; rfl; trivial; rfl; rfl; rfl; rfl; rfl) | (apply U.boxA; rfl; rfl) | (apply U.storeS; rfl; rfl; rfl; rfl; rfl; rfl; rfl; rfl) | refine U.call1 rfl rfl (by assumption) rfl ?_ | refine Tri.block ?_ | (refine Tri.cond rfl (fun h => ?_) (fun h => ?_) <;> (try simp at h) <;> (try contradiction)) | fail)
  refine Tri.loopL (α := Nat × List Int) (fun a => match a.2 with
      | [] => ⟨[(30, .t (tInt a.1)), (29, .t (tInt l.length)), (28, .t (.sl nl (encTys l))), (3, .t (.sl true []))], Tryz.f61.ntmps, [], 0, 1⟩
      | y :: ys => ⟨[(30, .t (tInt a.1)), (29, .t (tInt l.length)), (28, .t (.sl nl (encTys l))), (3, .ref 0 1 0 (ys.length + 1) (ys.length + 1))], Tryz.f61.ntmps, [(0, .row 1 ((y :: ys).map tInt) false)], 0, 1⟩)
    (fun a => a.1 ≤ l.length ∧ rowN l = a.2 ++ rowN (l.drop a.1)) (fun a => l.length - a.1) (0, []) ?_ ?_ ?_
  · exact ⟨Nat.zero_le _, rfl⟩
  · refine Sub.less (Sub.of rfl rfl ⟨rfl, ?_, rfl, rfl, trivial⟩ trivial)
    rw [← hlen]; rfl
  · rintro ⟨i, _ | ⟨y, ys⟩⟩ ⟨hi, hr⟩
    · dsimp only at hi hr ⊢
      repeat' (first | refine Tri.seq ?_ | refine Tri.reg ?_ | refine TriL.nil ?_ | (apply U.moveT; rfl; trivial; rfl) | (apply U.assignT; rfl; trivial; rfl) | (apply U.bin; rfl; trivial; rfl; trivial; rfl; rfl) | refine Tri.skip ?_ | refine Tri.block ?_ | refine Tri.exit ?_ | refine Tri.ret ?_ | (refine Tri.cond rfl (fun h => ?_) (fun h => ?_) <;> (try simp at h) <;> (try contradiction)) | fail)
      · have hlt : i < l.length := by omega
        have hget := get_ty hlt
        have hel := hel i hlt
        have hd := List.drop_eq_getElem_cons hlt
        have hfl := hfl _ (List.getElem_mem hlt)
        rw [hd, rowN] at hr
        cases hy : flN l[i] with
        | nil =>
          rw [hy] at hel hr
          repeat' (first | refine Tri.reg ?_ | refine TriL.nil ?_ | (apply U.moveT; rfl; trivial; rfl) | (apply U.loadES; rfl; rfl; trivial; rfl; rfl; rfl) | (apply U.loadS; rfl; rfl; trivial; rfl; rfl; rfl; rfl; rfl) | (apply U.idx; rfl; trivial; rfl; trivial; exact fun _ => (by omega); exact fun _ => (by assumption); exact fun _ => rfl; rfl) | (apply U.alloc; rfl; rfl; rfl; rfl) | (apply U.storeS; rfl; rfl; rfl; rfl; rfl; rfl; rfl; rfl) | refine U.call1 rfl rfl (by assumption) rfl ?_ | fail)
          refine U.appNil0 rfl (SrcE.t (n := true) rfl rfl) rfl ?_
          repeat' (first | refine Tri.reg ?_ | refine TriL.nil ?_ | (apply U.moveT; rfl; trivial; rfl) | (apply U.assignT; rfl; trivial; rfl) | (apply U.add; rfl; trivial; rfl; trivial; exact fun _ => wrap_i64 (by omega) (by omega); rfl) | fail)
          exact ⟨(i + 1, []), ⟨hlt, hr⟩, by dsimp only; omega, Sub.less (Sub.ofn (by decide) rfl ⟨rfl, rfl, rfl, rfl, trivial⟩ trivial rfl rfl)⟩
        | cons z zs =>
          rw [hy] at hel hr hfl
          repeat' (first | refine Tri.reg ?_ | refine TriL.nil ?_ | (apply U.moveT; rfl; trivial; rfl) | (apply U.loadES; rfl; rfl; trivial; rfl; rfl; rfl) | (apply U.loadS; rfl; rfl; trivial; rfl; rfl; rfl; rfl; rfl) | (apply U.idx; rfl; trivial; rfl; trivial; exact fun _ => (by omega); exact fun _ => (by assumption); exact fun _ => rfl; rfl) | (apply U.alloc; rfl; rfl; rfl; rfl) | (apply U.storeS; rfl; rfl; rfl; rfl; rfl; rfl; rfl; rfl) | refine U.call1 rfl rfl (by assumption) rfl ?_ | fail)
          refine U.appNil rfl (SrcE.t (n := false) rfl (leaves_int (z :: zs))) (by simp) (by simp at hfl ⊢; omega) (by simp at hfl ⊢; omega) rfl ?_
          repeat' (first | refine Tri.reg ?_ | refine TriL.nil ?_ | (apply U.moveT; rfl; trivial; rfl) | (apply U.assignR; rfl; trivial; rfl) | (apply U.add; rfl; trivial; rfl; trivial; exact fun _ => wrap_i64 (by omega) (by omega); rfl) | fail)
          refine ⟨(i + 1, z :: zs), ⟨hlt, hr⟩, by dsimp only; omega, Less.ren (fun b => if b = 0 then 2 else b) rfl rfl ⟨rfl, rfl, rfl, ?_, trivial⟩ ⟨rfl, trivial⟩ rfl rfl rfl⟩
          refine congrArg some ?_
          show PV.ref 2 1 0 _ _ = PV.ref 2 1 0 _ _
          simp
      · refine Comes1.ret rfl ?_
        have : i = l.length := by omega
        subst this
        rw [List.drop_length, rowN] at hr
        rw [hr]; rfl
    · dsimp only at hi hr ⊢
      repeat' (first | refine Tri.seq ?_ | refine Tri.reg ?_ | refine TriL.nil ?_ | (apply U.moveR; rfl; trivial; rfl) | (apply U.assignR; rfl; trivial; rfl) | (apply U.bin; rfl; trivial; rfl; trivial; rfl; rfl) | refine Tri.skip ?_ | refine Tri.block ?_ | refine Tri.exit ?_ | refine Tri.ret ?_ | (refine Tri.cond rfl (fun h => ?_) (fun h => ?_) <;> (try simp at h) <;> (try contradiction)) | fail)
      · have hlt : i < l.length := by omega
        have hget := get_ty hlt
        have hel := hel i hlt
        have hd := List.drop_eq_getElem_cons hlt
        have hfl := hfl _ (List.getElem_mem hlt)
        rw [hd, rowN] at hr
        have hbd := congrArg List.length hr
        simp only [List.length_append, List.length_cons] at hbd
        repeat' (first | refine Tri.reg ?_ | refine TriL.nil ?_ | (apply U.moveR; rfl; trivial; rfl) | (apply U.loadES; rfl; rfl; trivial; rfl; rfl; rfl) | (apply U.loadS; rfl; rfl; trivial; rfl; rfl; rfl; rfl; rfl) | (apply U.idx; rfl; trivial; rfl; trivial; exact fun _ => (by omega); exact fun _ => (by assumption); exact fun _ => rfl; rfl) | (apply U.alloc; rfl; rfl; rfl; rfl) | (apply U.storeS; rfl; rfl; rfl; rfl; rfl; rfl; rfl; rfl) | refine U.call1 rfl rfl (by assumption) rfl ?_ | fail)
        refine U.appOwn rfl rfl (by simp) (by simp) (SrcE.t rfl (leaves_int _)) (by simp; omega) (by simp; omega) rfl ?_
        repeat' (first | refine Tri.reg ?_ | refine TriL.nil ?_ | (apply U.moveT; rfl; trivial; rfl) | (apply U.assignR; rfl; trivial; rfl) | (apply U.add; rfl; trivial; rfl; trivial; exact fun _ => wrap_i64 (by omega) (by omega); rfl) | fail)
        refine ⟨(i + 1, y :: (ys ++ flN l[i])), ⟨hlt, by rw [hr]; simp⟩, by dsimp only; omega, Less.ren (fun b => if b = 0 then 2 else b) rfl rfl ⟨rfl, rfl, rfl, ?_, trivial⟩ ⟨?_, trivial⟩ rfl rfl rfl⟩
        · refine congrArg some ?_
          show PV.ref 2 1 0 _ _ = PV.ref 2 1 0 _ _
          simp; omega
        · refine congrArg some ?_
          show Blk.row 1 _ false = Blk.row 1 _ false
          simp
      · have : i = l.length := by omega
        subst this
        rw [List.drop_length, rowN, List.append_nil] at hr
        exact Comes1.retI rfl rfl rfl hr.symm
/-- What is known of a function's type that may be. -/
structure SgOk (s : Sg) : Prop where
  t : s.t.length ≤ 64
  el : ∀ x ∈ s.t, Vd x ∧ (x.kind ≠ 0 → partsN x ≤ 500)
  r : Vd s.r ∧ (s.r.kind ≠ 0 → partsN s.r ≤ 500)
theorem mayAll_mem : ∀ {l : List Ty}, mayAll l = true → ∀ x ∈ l, mayB x = true
  | t :: ts, h, x, hx => by
    simp only [mayAll, Bool.and_eq_true] at h
    rcases List.mem_cons.1 hx with rfl | hx
    · exact h.1
    · exact mayAll_mem h.2 x hx
theorem maySg_ok {s : Sg} (h : maySgB s = true) : SgOk s := by
  simp only [maySgB, Bool.and_eq_true, Bool.or_eq_true, decide_eq_true_eq, namesB_iff] at h
  obtain ⟨⟨⟨h1, h2⟩, h3⟩, h4⟩ := h
  refine ⟨by rcases h2 with h | h <;> omega, fun x hx => may_vd (mayAll_mem h4 x hx), ?_⟩
  rcases h3 with h | h
  · exact ⟨.inl h, fun hk => absurd (noneT_spec h).1 hk⟩
  · exact may_vd h
theorem rowN_bd : ∀ (l : List Ty), (∀ x ∈ l, (flN x).length ≤ 1000) → (rowN l).length ≤ 1000 * l.length
  | [], _ => by simp [rowN]
  | t :: ts, h => by
    have h1 := h t List.mem_cons_self
    have h2 := rowN_bd ts fun x hx => h x (List.mem_cons_of_mem _ hx)
    simp [rowN]; omega
theorem SgOk.row {s : Sg} (h : SgOk s) : (rowN s.t).length ≤ 64000 := by
  have := rowN_bd s.t fun x hx => len_fl (h.el x hx).2
  have := h.t
  omega
theorem args_p (HN : LexName) (s : Sg) (hs : smallSg s) : E.Pure Tryz.prog 52 [encSg s] (.one (ownI (if maySgB s then rowN s.t else []))) := by
  have hc := checkSig_p HN s hs
  rw [encSg_eta] at *
  cases hm : maySgB s with
  | false =>
    simp only [hm] at hc ⊢
    refine Pure.of1 Tryz.func52 rfl rfl (Nat.le_of_ble_eq_true rfl) rfl ?_
    repeat' (first | refine Tri.seq ?_ | refine Tri.reg ?_ | refine TriL.nil ?_ | (apply U.assignT; rfl; trivial; rfl) | (apply U.bin; rfl; trivial; rfl; trivial; rfl; rfl) | (apply U.loadS; rfl; rfl; trivial; rfl; rfl; rfl; rfl; rfl) | (apply U.boxA; rfl; rfl) | refine U.call1 rfl rfl (by assumption) rfl ?_ | refine Tri.ret ?_ | (refine Tri.cond rfl (fun h => ?_) (fun h => ?_) <;> (try simp at h) <;> (try contradiction)) | fail)
    exact Comes1.ret rfl rfl
  | true =>
    simp only [hm] at hc ⊢
    have ho := maySg_ok hm
    have hf := flat_own s.nt s.t ho.t (fun i hi => by
      have := flat_p _ s.t[i] (Nat.le_refl _) (ho.el _ (List.getElem_mem hi)).1 (ho.el _ (List.getElem_mem hi)).2
      rwa [encTy_eta] at this) (fun y hy => len_fl (ho.el y hy).2) (by have := ho.row; omega)
    refine Pure.of1 Tryz.func52 rfl rfl (Nat.le_of_ble_eq_true rfl) rfl ?_
    cases hr : rowN s.t with
    | nil =>
      rw [hr] at hf
      repeat' (first | refine Tri.seq ?_ | refine Tri.reg ?_ | refine TriL.nil ?_ | (apply U.assignT; rfl; trivial; rfl) | (apply U.load; rfl; rfl; trivial; rfl; rfl; rfl) | (apply U.fld; rfl; trivial; rfl; infer_instance; decide; rfl) | (apply U.bin; rfl; trivial; rfl; trivial; rfl; rfl) | (apply U.loadS; rfl; rfl; trivial; rfl; rfl; rfl; rfl; rfl) | (apply U.boxA; rfl; rfl) | refine U.call1 rfl rfl (by assumption) rfl ?_ | refine Tri.skip ?_ | refine Tri.ret ?_ | (apply U.build; rfl; rfl; rfl; rfl; rfl) | (refine Tri.cond rfl (fun h => ?_) (fun h => ?_) <;> (try simp at h) <;> (try contradiction)) | fail)
      exact Comes1.ret rfl rfl
    | cons y ys =>
      rw [hr] at hf
      repeat' (first | refine Tri.seq ?_ | refine Tri.reg ?_ | refine TriL.nil ?_ | (apply U.assignT; rfl; trivial; rfl) | (apply U.load; rfl; rfl; trivial; rfl; rfl; rfl) | (apply U.fld; rfl; trivial; rfl; infer_instance; decide; rfl) | (apply U.bin; rfl; trivial; rfl; trivial; rfl; rfl) | (apply U.loadS; rfl; rfl; trivial; rfl; rfl; rfl; rfl; rfl) | (apply U.boxA; rfl; rfl) | refine U.call1 rfl rfl (by assumption) rfl ?_ | refine Tri.skip ?_ | (apply U.build; rfl; rfl; rfl; rfl; rfl) | (refine Tri.cond rfl (fun h => ?_) (fun h => ?_) <;> (try simp at h) <;> (try contradiction)) | fail)
      refine U.callO1 rfl rfl hf rfl ?_
      repeat' (first | refine TriL.nil ?_ | (apply U.assignR; rfl; trivial; rfl) | refine Tri.ret ?_ | fail)
      exact Comes1.retI rfl rfl (by simp) rfl
end Go.Proofs.YtldelbknkkeniaaGreatDoor
