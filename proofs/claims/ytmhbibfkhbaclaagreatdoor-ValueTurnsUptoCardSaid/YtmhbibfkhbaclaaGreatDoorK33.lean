/- A value with other handles: the code's. -/
import Derived.Test.YtmhbibfkhbaclaaGreatDoorK31
import Derived.Test.YtmhbibfkhbaclaaGreatDoorK32
namespace Go.Proofs.YtmhbibfkhbaclaaGreatDoor
open Go E
set_option maxRecDepth 100000
set_option maxHeartbeats 4000000
set_option linter.unusedVariables false
set_option linter.unusedSimpArgs false
theorem Pure.wfI {P : Program} {f : FuncId} {xs : List T} {r : Res} {C : Prop} (i : Nat) {x : T} (hx : xs[i]? = some x) (hC : ∀ F v, TR F x v → C) (h : C → E.Pure P f xs r) : E.Pure P f xs r := by
  intro F vs w hF hn hv
  have hi : i < xs.length := by
    by_cases e : i < xs.length
    · exact e
    · rw [List.getElem?_eq_none (by omega)] at hx; cases hx
  exact h (hC F vs[i] (hv i x vs[i] hx (Array.getElem?_eq_getElem (by omega)))) F vs w hF hn hv
theorem wf_val {F : FMem} {u : Val} {v : Value} (h : TR F (encVal u) v) : u.ns = true → u.s = [] := by
  rw [encVal_eta] at h
  cases h with
  | @agg xs vs hn h =>
    have hs : vs.size = 3 := by simpa using hn.symm
    have h1 := h 1 _ vs[1] rfl (Array.getElem?_eq_getElem (by omega))
    intro e
    simpa using wf_sl h1 e
attribute [local irreducible] Tri TriL TriO PO VO E.Pure DOb XOb
theorem cloneI_p (l : List Int) (nn : Bool) (hb : l.length ≤ 1000) (hn : nn = true → l = []) : E.Pure Tryz.prog 31 [.sl nn (l.map tInt)] (.one (.t (.sl nn (l.map tInt)))) := by
  have hlen : (l.map tInt).length = l.length := by simp
  refine Pure.of1 Tryz.func31 rfl rfl (Nat.le_of_ble_eq_true rfl) rfl ?_
  repeat' (first | refine Tri.seq ?_ | refine Tri.reg ?_ | refine TriL.nil ?_ | (apply U.moveT; rfl; trivial; rfl) | (apply U.assignT; rfl; trivial; rfl) | refine Tri.skip ?_ | refine Tri.ret ?_ | (apply U.eqNil; rfl; trivial; rfl; trivial; rfl) | (refine Tri.cond rfl (fun h => ?_) (fun h => ?_) <;> (try simp at h) <;> (try contradiction)) | fail)
  · refine Comes1.ret rfl ?_
    subst h; rw [hn rfl]; rfl
  · (apply U.lit; rfl; rfl; rfl; rfl; rfl; rfl; rfl; rfl)
    repeat' (first | (apply U.moveT; rfl; trivial; rfl) | fail)
    refine U.appOwn rfl rfl rfl rfl (SrcE.t rfl (by simp [tInt, T.leaves])) ?_ ?_ rfl ?_
    · omega
    · omega
    repeat' (first | refine TriL.nil ?_ | (apply U.assignR; rfl; trivial; rfl) | refine Tri.ret ?_ | fail)
    refine Comes1.retF rfl rfl (by simp) ?_
    subst h; simp [List.take_of_length_le]
theorem with_p : ∀ (m : Nat) (v : Val) (t : Ty) (na : Bool) (a : List Int), SizeOf.sizeOf v ≤ m → smallV v → Vd t → t.kind ≠ 0 → partV v t ≠ 0 → (hnT v t).length ≤ a.length → a.length ≤ big →
    E.Pure Tryz.prog 20 [encTy t, encVal v, .sl na (a.map tInt)] (.tup [.t (encVal (wtV v t a)), .t (.sl na ((a.drop (hnT v t).length).map tInt))]) := by
  intro m
  induction m with
  | zero => intro v t na a hm; cases v; simp at hm
  | succ m ih =>
    intro v t na a hm hs hv hk0 hp ha hab
    refine Pure.wfI 1 rfl (fun F u h => wf_val h) fun hwf => ?_
    have hb2 := smallV_l hs
    have hb2' := hb2
    have hle := partV_le v t
    have hle2 := hn_le v t hp
    have hs1 := part_s hp
    unfold big at hb2 hab
    have hlen := encVals_length v.l
    have hcl := cloneI_p v.s v.ns hs1 hwf
    refine Pure.ofCT rfl Tryz.func20 rfl rfl (Nat.le_of_ble_eq_true rfl) rfl ?_
    rw [encTy_eta, encVal_eta v, encVal_eta (wtV v t a)]
    repeat' (first | refine Tri.seq ?_ | refine Tri.reg ?_ | refine TriL.nil ?_ | (apply U.moveT; rfl; trivial; rfl) | (apply U.assignT; rfl; trivial; rfl) | (apply U.load; rfl; rfl; trivial; rfl; rfl; rfl) | (apply U.fld; rfl; trivial; rfl; infer_instance; decide; rfl) | (apply U.bin; rfl; trivial; rfl; trivial; rfl; rfl) | (apply U.pickb; rfl; trivial; rfl; (first | trivial | exact id | exact And.right | exact gvA | exact gvB | exact And.left | exact gvN | exact gvP2 | exact gvN2 | exact gvLA); rfl; (first | trivial | exact id | exact And.right | exact gvA | exact gvB | exact And.left | exact gvN | exact gvP2 | exact gvN2 | exact gvLA); rfl) | (apply U.boxA; rfl; rfl) | (apply U.alloc; rfl; rfl; rfl; rfl) | (apply G.load; rfl; rfl; (first | trivial | exact id | exact And.right | exact gvA | exact gvB | exact And.left | exact gvN | exact gvP2 | exact gvN2 | exact gvLA); rfl; rfl; rfl; rfl; rfl) | (apply G.fld; rfl; (first | trivial | exact id | exact And.right | exact gvA | exact gvB | exact And.left | exact gvN | exact gvP2 | exact gvN2 | exact gvLA); rfl; infer_instance; decide; rfl; rfl; rfl) | (apply G.bin; rfl; (first | trivial | exact id | exact And.right | exact gvA | exact gvB | exact And.left | exact gvN | exact gvP2 | exact gvN2 | exact gvLA); rfl; (first | trivial | exact id | exact And.right | exact gvA | exact gvB | exact And.left | exact gvN | exact gvP2 | exact gvN2 | exact gvLA); rfl; rfl; rfl; rfl) | refine Tri.skip ?_ | (refine Tri.cond rfl (fun h => ?_) (fun h => ?_) <;> (try simp at h) <;> (try contradiction)) | fail)
    · rw [hnT_eq, if_pos (by omega)] at ha ⊢
      rw [wtV_eq, if_pos (by omega)]
      obtain ⟨x, xs, rfl⟩ : ∃ x xs, a = x :: xs := by
        cases a with
        | nil => simp at ha
        | cons x xs => exact ⟨x, xs, rfl⟩
      have hg : (List.map tInt (x :: xs))[(0 : Int).toNat]? = some (tInt x) := rfl
      have hlx : (List.map tInt (x :: xs)).length = xs.length + 1 := by simp
      refine Tri.sub (s2 := ⟨[(7, .t (.sl true [])), (6, .ptr 2 0), (4, .ptr 1 0), (3, .ptr 0 0), (2, .t (.sl na ((x :: xs).map tInt)))], Tryz.f20.ntmps, [(2, .obj [.t (.v (.int .i64 0)), .t (.sl true []), .t (.sl true [])]), (1, .obj [.t (.v (.int .i64 v.n)), .t (.sl v.ns (v.s.map tInt)), .t (.sl v.nl (encVals v.l))]), (0, .obj [.t (.v (.int .i64 t.kind)), .t (.sl t.nn (t.names.map tStr)), .t (.sl t.nl (encTys t.l)), .t (.v (.int .i64 t.r))])], 0, 3⟩) (Sub.of rfl rfl ⟨rfl, rfl, rfl, rfl, rfl, trivial⟩ ⟨rfl, rfl, rfl, trivial⟩) ?_
      refine Tri.regX mixed (by kernel_rfl) rfl rfl ?_
      repeat' (first | (apply X.v; rfl; (focus (repeat' (first | refine TriL.nil ?_ | exact ⟨rfl, rfl, rfl⟩ | (apply U.moveT; rfl; trivial; rfl) | (apply U.loadE; rfl; rfl; trivial; rfl; rfl) | (apply U.idx; rfl; trivial; rfl; trivial; exact fun _ => (by omega); exact fun _ => (by assumption); exact fun _ => rfl; rfl) | (apply U.cutLo; rfl; trivial; rfl; trivial; exact fun _ => (by first | omega | (simp at *; omega)); exact fun _ => (by first | omega | (simp at *; omega)); exact fun _ => (by intro i_ x_ h_; simp only [List.getElem?_map, Option.map_eq_some_iff] at h_; obtain ⟨_, _, rfl⟩ := h_; rfl); rfl) | (apply U.build; rfl; rfl; rfl; rfl; rfl) | fail))); exact Yes.mk rfl) | fail)
      repeat' (first | refine TriL.nil ?_ | exact Yes.mk rfl | refine X.nil ?_ | (apply X.s; rfl) | (apply X.a; rfl) | exact ⟨rfl, rfl, rfl⟩ | (apply U.assignT; rfl; trivial; rfl) | (apply U.storeS; rfl; rfl; rfl; rfl; rfl; rfl; rfl; rfl) | refine Tri.ret ?_ | exact ⟨rfl, rfl⟩ | fail)
      exact ComesCT.trees (.inr rfl) rfl rfl rfl rfl (.tree rfl (.tree rfl (.tree rfl .nil)))
    · have hk : ¬(t.kind = 20 ∨ t.kind = 21) := by omega
      have hT : hnT v t = hnTs v.l (insL t v.n v.l.length) := by rw [hnT_eq, if_neg hk]
      have hW : wtV v t a = .mk v.n v.ns v.s v.l.isEmpty (wtVs v.l (insL t v.n v.l.length) a) := by rw [wtV_eq, if_neg hk]
      have hin : v.l ≠ [] → insB t v.n v.l.length = true ∧ sumV v.l (insL t v.n v.l.length) 1 ≠ 0 := fun e => (val_in hv hk0 hp hk e).2.2
      have hil : v.l ≠ [] → (insL t v.n v.l.length).length = v.l.length := fun e => insL_len (hin e).1
      have hie : ∀ x ∈ insL t v.n v.l.length, Vd x ∧ x.kind ≠ 0 := fun x hx => insL_el hv hk0 hx
      have hinner : ∀ (i : Nat) (h : i < v.l.length) (h2 : i < (insL t v.n v.l.length).length), E.Pure Tryz.prog 29 [encTy t, encVal v, tInt i] (.one (.t (agTy (insL t v.n v.l.length)[i]))) := fun i h h2 => inner_p t v i hv hk0 hp hk h hb2' h2
      rw [encTy_eta, encVal_eta] at hinner
      generalize insL t v.n v.l.length = ts at *
      rw [hT] at ha hle2
      rw [hW, hT]
      refine Tri.regX mixed (by kernel_rfl) rfl rfl ?_
      repeat' (first | refine Tri.seq ?_ | refine Tri.reg ?_ | refine TriL.nil ?_ | exact Yes.mk rfl | refine X.nil ?_ | (apply X.s; rfl) | (apply X.alloc; rfl; rfl; rfl; rfl) | (apply X.a; rfl) | exact ⟨rfl, rfl, rfl⟩ | (apply U.moveT; rfl; trivial; rfl) | (apply U.load; rfl; rfl; trivial; rfl; rfl; rfl) | (apply U.fld; rfl; trivial; rfl; infer_instance; decide; rfl) | (apply U.len; rfl; trivial; rfl) | (apply U.storeS; rfl; rfl; rfl; rfl; rfl; rfl; rfl; rfl) | refine U.call1 rfl rfl (by assumption) rfl ?_ | refine Tri.block ?_ | (apply U.build; rfl; rfl; rfl; rfl; rfl) | exact ⟨rfl, rfl⟩ | fail)
      refine Tri.loopL (α := Nat × List Val × List Int) (fun b => match b with
          | (i, [], r) => ⟨[(35, .t (tInt i)), (34, .t (tInt v.l.length)), (33, .t (.sl v.nl (encVals v.l))), (8, .ptr 3 0), (6, .ptr 2 0), (4, .ptr 1 0), (3, .ptr 0 0), (2, .t (.sl na (r.map tInt)))], Tryz.f20.ntmps, [(3, .obj [.t (.v (.int .i64 v.n)), .t (.sl v.ns (v.s.map tInt)), .t (.sl true [])]), (2, .obj [.t (.v (.int .i64 0)), .t (.sl true []), .t (.sl true [])]), (1, .obj [.t (.v (.int .i64 v.n)), .t (.sl v.ns (v.s.map tInt)), .t (.sl v.nl (encVals v.l))]), (0, .obj [.t (.v (.int .i64 t.kind)), .t (.sl t.nn (t.names.map tStr)), .t (.sl t.nl (encTys t.l)), .t (.v (.int .i64 t.r))])], 0, 4⟩
          | (i, d :: D, r) => ⟨[(35, .t (tInt i)), (34, .t (tInt v.l.length)), (33, .t (.sl v.nl (encVals v.l))), (8, .ptr 3 0), (6, .ptr 2 0), (4, .ptr 1 0), (3, .ptr 0 0), (2, .t (.sl na (r.map tInt)))], Tryz.f20.ntmps, [(4, .row 3 ((d :: D).map agVal) false), (3, .obj [.t (.v (.int .i64 v.n)), .t (.sl v.ns (v.s.map tInt)), .ref 4 3 0 (D.length + 1) (D.length + 1)]), (2, .obj [.t (.v (.int .i64 0)), .t (.sl true []), .t (.sl true [])]), (1, .obj [.t (.v (.int .i64 v.n)), .t (.sl v.ns (v.s.map tInt)), .t (.sl v.nl (encVals v.l))]), (0, .obj [.t (.v (.int .i64 t.kind)), .t (.sl t.nn (t.names.map tStr)), .t (.sl t.nl (encTys t.l)), .t (.v (.int .i64 t.r))])], 0, 5⟩)
        (fun b => b.1 ≤ v.l.length ∧ b.2.1.length = b.1 ∧ wtVs v.l ts a = b.2.1 ++ wtVs (v.l.drop b.1) (ts.drop b.1) b.2.2 ∧ (hnTs (v.l.drop b.1) (ts.drop b.1)).length ≤ b.2.2.length ∧ b.2.2.length ≤ a.length ∧ a.drop (hnTs v.l ts).length = b.2.2.drop (hnTs (v.l.drop b.1) (ts.drop b.1)).length) (fun b => v.l.length - b.1) (0, [], a) ⟨Nat.zero_le _, rfl, rfl, ha, Nat.le_refl _, rfl⟩ ?_ ?_
      · refine Sub.less (Sub.of rfl rfl ⟨rfl, ?_, rfl, rfl, rfl, rfl, rfl, rfl, trivial⟩ ⟨rfl, rfl, rfl, rfl, trivial⟩)
        rw [← hlen]; rfl
      · rintro ⟨i, D, r⟩ ⟨hi, hD, hA, hr, hra, hrest⟩
        dsimp only at hi hD hA hr hra hrest
        cases D with
        | nil =>
          obtain rfl : 0 = i := hD
          dsimp only
          repeat' (first | refine Tri.seq ?_ | refine Tri.reg ?_ | refine TriL.nil ?_ | (apply U.moveT; rfl; trivial; rfl) | (apply U.assignT; rfl; trivial; rfl) | (apply U.bin; rfl; trivial; rfl; trivial; rfl; rfl) | (apply U.loadS; rfl; rfl; trivial; rfl; rfl; rfl; rfl; rfl) | (apply U.storeS; rfl; rfl; rfl; rfl; rfl; rfl; rfl; rfl) | refine Tri.skip ?_ | refine Tri.block ?_ | refine Tri.exit ?_ | refine Tri.ret ?_ | (refine Tri.cond rfl (fun h => ?_) (fun h => ?_) <;> (try simp at h) <;> (try contradiction)) | fail)
          · have hlt : 0 < v.l.length := by omega
            have hne : v.l ≠ [] := fun e => by rw [e] at hlt; exact absurd hlt (Nat.not_lt_zero 0)
            have hlt2 : 0 < ts.length := by rw [hil hne]; exact hlt
            have hget := get_val hlt
            have hc1 := hinner 0 hlt hlt2
            obtain ⟨e1, e2⟩ := hie _ (List.getElem_mem hlt2)
            rw [wtVs_step r hlt hlt2] at hA
            rw [hnTs_step hlt hlt2, List.length_append] at hr hrest
            have hc2 := ih v.l[0] ts[0] na r (by have := vsize_get hlt v rfl; omega) (smallVs_get (smallV_ls hs) (List.getElem?_eq_getElem hlt)) e1 e2 (sumV_el _ _ _ (hin hne).2 (by rw [hil hne]; exact Nat.le_refl _) 0 hlt hlt2) (by omega) (by unfold big; omega)
            rw [encTy_eta, encVal_eta v.l[0], encVal_eta (wtV v.l[0] ts[0] r)] at hc2
            repeat' (first | refine Tri.seq ?_ | refine Tri.reg ?_ | refine TriL.nil ?_ | (apply U.assignT; rfl; trivial; rfl) | (apply U.loadES; rfl; rfl; trivial; rfl; rfl; rfl) | (apply U.idx; rfl; trivial; rfl; trivial; exact fun _ => (by omega); exact fun _ => (by assumption); exact fun _ => rfl; rfl) | (apply U.alloc; rfl; rfl; rfl; rfl) | (apply U.storeS; rfl; rfl; rfl; rfl; rfl; rfl; rfl; rfl) | fail)
            refine Tri.regX mixed (by kernel_rfl) rfl rfl ?_
            repeat' (first | (apply X.v; rfl; (focus (repeat' (first | refine TriL.nil ?_ | exact ⟨rfl, rfl, rfl⟩ | (apply U.moveT; rfl; trivial; rfl) | (apply U.assignT; rfl; trivial; rfl) | (apply U.moveU; rfl; trivial; rfl) | (apply U.load; rfl; rfl; trivial; rfl; rfl; rfl) | (apply U.fld; rfl; trivial; rfl; infer_instance; decide; rfl) | (apply U.loadS; rfl; rfl; trivial; rfl; rfl; rfl; rfl; rfl) | (apply U.ext; rfl; trivial; rfl; rfl) | (apply U.storeS; rfl; rfl; rfl; rfl; rfl; rfl; rfl; rfl) | refine U.call3 rfl rfl rfl rfl (by assumption) rfl ?_ | refine U.callP3 rfl rfl rfl rfl (by assumption) rfl ?_ | fail))); exact Yes.mk rfl) | (apply X.a; rfl; (focus (repeat' (first | refine TriL.nil ?_ | exact ⟨rfl, rfl, rfl⟩ | (apply U.moveT; rfl; trivial; rfl) | (apply U.assignT; rfl; trivial; rfl) | (apply U.moveU; rfl; trivial; rfl) | (apply U.load; rfl; rfl; trivial; rfl; rfl; rfl) | (apply U.fld; rfl; trivial; rfl; infer_instance; decide; rfl) | (apply U.loadS; rfl; rfl; trivial; rfl; rfl; rfl; rfl; rfl) | (apply U.ext; rfl; trivial; rfl; rfl) | (apply U.storeS; rfl; rfl; rfl; rfl; rfl; rfl; rfl; rfl) | refine U.call3 rfl rfl rfl rfl (by assumption) rfl ?_ | refine U.callP3 rfl rfl rfl rfl (by assumption) rfl ?_ | fail))); exact Yes.mk rfl) | refine Tri.reg ?_ | refine TriL.nil ?_ | refine X.nil ?_ | (apply X.s; rfl) | exact ⟨rfl, rfl, rfl⟩ | (apply U.moveT; rfl; trivial; rfl) | (apply U.assignT; rfl; trivial; rfl) | (apply U.moveU; rfl; trivial; rfl) | (apply U.load; rfl; rfl; trivial; rfl; rfl; rfl) | (apply U.fld; rfl; trivial; rfl; infer_instance; decide; rfl) | (apply U.loadS; rfl; rfl; trivial; rfl; rfl; rfl; rfl; rfl) | (apply U.ext; rfl; trivial; rfl; rfl) | (apply U.storeS; rfl; rfl; rfl; rfl; rfl; rfl; rfl; rfl) | refine U.call3 rfl rfl rfl rfl (by assumption) rfl ?_ | exact ⟨rfl, rfl⟩ | refine U.callP3 rfl rfl rfl rfl (by assumption) rfl ?_ | fail)
            repeat' (first | exact Yes.mk rfl | fail)
            (apply U.litT; rfl; rfl; rfl; rfl; rfl; rfl; rfl; rfl)
            skip
            refine U.appNil rfl (SrcE.t (n := false) rfl rfl) (by simp) (by simp) (by simp) rfl ?_
            repeat' (first | refine Tri.reg ?_ | refine TriL.nil ?_ | (apply U.moveT; rfl; trivial; rfl) | (apply U.fld; rfl; trivial; rfl; infer_instance; decide; rfl) | (apply U.add; rfl; trivial; rfl; trivial; exact fun _ => wrap_i64 (by omega) (by omega); rfl) | (apply U.store; rfl; rfl; rfl; rfl; rfl; rfl; rfl) | fail)
            refine ⟨(1, [wtV v.l[0] ts[0] r], r.drop (hnT v.l[0] ts[0]).length), ⟨by dsimp only; omega, rfl, by dsimp only; exact hA, ?_, ?_, ?_⟩, by dsimp only; omega, ?_⟩
            · dsimp only
              have hr' : (hnT v.l[0] ts[0]).length + (hnTs (v.l.drop 1) (ts.drop 1)).length ≤ r.length := hr
              rw [List.length_drop]; omega
            · dsimp only; rw [List.length_drop]; omega
            · dsimp only; rw [hrest, List.drop_drop]
            · exact Less.ren (fun b => if b = 4 then 6 else b) rfl rfl ⟨rfl, rfl, rfl, rfl, rfl, rfl, rfl, rfl, trivial⟩ ⟨rfl, rfl, rfl, rfl, rfl, trivial⟩ rfl rfl rfl
          · have e : wtVs v.l ts a = [] := by rw [h, wtVs]
            have e2 : hnTs (v.l.drop 0) (ts.drop 0) = [] := by rw [h, List.drop_nil, hnTs]
            rw [hrest, e2, e]
            have e3 : v.l.isEmpty = true := by rw [h]; rfl
            rw [e3]
            exact ComesCT.trees (.inr rfl) rfl rfl rfl rfl (.tree rfl (.tree rfl (.tree rfl .nil)))
        | cons d D =>
          dsimp only
          have hDl : D.length + 1 = i := by rw [← hD]; rfl
          repeat' (first | refine Tri.seq ?_ | refine Tri.reg ?_ | refine TriL.nil ?_ | (apply U.moveT; rfl; trivial; rfl) | (apply U.assignT; rfl; trivial; rfl) | (apply U.bin; rfl; trivial; rfl; trivial; rfl; rfl) | (apply U.loadS; rfl; rfl; trivial; rfl; rfl; rfl; rfl; rfl) | (apply U.storeS; rfl; rfl; rfl; rfl; rfl; rfl; rfl; rfl) | refine Tri.skip ?_ | refine Tri.block ?_ | refine Tri.exit ?_ | refine Tri.ret ?_ | (refine Tri.cond rfl (fun h => ?_) (fun h => ?_) <;> (try simp at h) <;> (try contradiction)) | fail)
          · have hlt : i < v.l.length := by omega
            have hne : v.l ≠ [] := fun e => by rw [e] at hlt; exact absurd hlt (Nat.not_lt_zero i)
            have hlt2 : i < ts.length := by rw [hil hne]; exact hlt
            have hget := get_val hlt
            have hc1 := hinner i hlt hlt2
            obtain ⟨e1, e2⟩ := hie _ (List.getElem_mem hlt2)
            have hcap : v.l.length ≤ 4000 := by
              have h1 := sumV_len _ _ _ (hin hne).2
              have h2 := sumV_le v.l ts 1 (by omega)
              omega
            rw [wtVs_step r hlt hlt2] at hA
            rw [hnTs_step hlt hlt2, List.length_append] at hr hrest
            have hc2 := ih v.l[i] ts[i] na r (by have := vsize_get hlt v rfl; omega) (smallVs_get (smallV_ls hs) (List.getElem?_eq_getElem hlt)) e1 e2 (sumV_el _ _ _ (hin hne).2 (by rw [hil hne]; exact Nat.le_refl _) i hlt hlt2) (by omega) (by unfold big; omega)
            rw [encTy_eta, encVal_eta v.l[i], encVal_eta (wtV v.l[i] ts[i] r)] at hc2
            repeat' (first | refine Tri.seq ?_ | refine Tri.reg ?_ | refine TriL.nil ?_ | (apply U.assignT; rfl; trivial; rfl) | (apply U.loadES; rfl; rfl; trivial; rfl; rfl; rfl) | (apply U.idx; rfl; trivial; rfl; trivial; exact fun _ => (by omega); exact fun _ => (by assumption); exact fun _ => rfl; rfl) | (apply U.alloc; rfl; rfl; rfl; rfl) | (apply U.storeS; rfl; rfl; rfl; rfl; rfl; rfl; rfl; rfl) | fail)
            refine Tri.regX mixed (by kernel_rfl) rfl rfl ?_
            repeat' (first | (apply X.v; rfl; (focus (repeat' (first | refine TriL.nil ?_ | exact ⟨rfl, rfl, rfl⟩ | (apply U.moveT; rfl; trivial; rfl) | (apply U.assignT; rfl; trivial; rfl) | (apply U.moveU; rfl; trivial; rfl) | (apply U.load; rfl; rfl; trivial; rfl; rfl; rfl) | (apply U.fld; rfl; trivial; rfl; infer_instance; decide; rfl) | (apply U.loadS; rfl; rfl; trivial; rfl; rfl; rfl; rfl; rfl) | (apply U.ext; rfl; trivial; rfl; rfl) | (apply U.storeS; rfl; rfl; rfl; rfl; rfl; rfl; rfl; rfl) | refine U.call3 rfl rfl rfl rfl (by assumption) rfl ?_ | refine U.callP3 rfl rfl rfl rfl (by assumption) rfl ?_ | fail))); exact Yes.mk rfl) | (apply X.a; rfl; (focus (repeat' (first | refine TriL.nil ?_ | exact ⟨rfl, rfl, rfl⟩ | (apply U.moveT; rfl; trivial; rfl) | (apply U.assignT; rfl; trivial; rfl) | (apply U.moveU; rfl; trivial; rfl) | (apply U.load; rfl; rfl; trivial; rfl; rfl; rfl) | (apply U.fld; rfl; trivial; rfl; infer_instance; decide; rfl) | (apply U.loadS; rfl; rfl; trivial; rfl; rfl; rfl; rfl; rfl) | (apply U.ext; rfl; trivial; rfl; rfl) | (apply U.storeS; rfl; rfl; rfl; rfl; rfl; rfl; rfl; rfl) | refine U.call3 rfl rfl rfl rfl (by assumption) rfl ?_ | refine U.callP3 rfl rfl rfl rfl (by assumption) rfl ?_ | fail))); exact Yes.mk rfl) | refine Tri.reg ?_ | refine TriL.nil ?_ | refine X.nil ?_ | (apply X.s; rfl) | exact ⟨rfl, rfl, rfl⟩ | (apply U.moveT; rfl; trivial; rfl) | (apply U.assignT; rfl; trivial; rfl) | (apply U.moveU; rfl; trivial; rfl) | (apply U.load; rfl; rfl; trivial; rfl; rfl; rfl) | (apply U.fld; rfl; trivial; rfl; infer_instance; decide; rfl) | (apply U.loadS; rfl; rfl; trivial; rfl; rfl; rfl; rfl; rfl) | (apply U.ext; rfl; trivial; rfl; rfl) | (apply U.storeS; rfl; rfl; rfl; rfl; rfl; rfl; rfl; rfl) | refine U.call3 rfl rfl rfl rfl (by assumption) rfl ?_ | exact ⟨rfl, rfl⟩ | refine U.callP3 rfl rfl rfl rfl (by assumption) rfl ?_ | fail)
            repeat' (first | exact Yes.mk rfl | fail)
            (apply U.litT; rfl; rfl; rfl; rfl; rfl; rfl; rfl; rfl)
            skip
            refine U.appOwn rfl rfl (by simp) (by simp) (SrcE.t (n := false) rfl rfl) (by simp; omega) (by simp; omega) rfl ?_
            repeat' (first | refine Tri.reg ?_ | refine TriL.nil ?_ | (apply U.moveT; rfl; trivial; rfl) | (apply U.fld; rfl; trivial; rfl; infer_instance; decide; rfl) | (apply U.add; rfl; trivial; rfl; trivial; exact fun _ => wrap_i64 (by omega) (by omega); rfl) | (apply U.store; rfl; rfl; rfl; rfl; rfl; rfl; rfl) | fail)
            refine ⟨(i + 1, d :: (D ++ [wtV v.l[i] ts[i] r]), r.drop (hnT v.l[i] ts[i]).length), ⟨by dsimp only; omega, by simp; omega, by dsimp only; rw [hA]; simp, ?_, ?_, ?_⟩, by dsimp only; omega, ?_⟩
            · dsimp only; rw [List.length_drop]; omega
            · dsimp only; rw [List.length_drop]; omega
            · dsimp only; rw [hrest, List.drop_drop]
            · refine Less.ren (fun b => if b = 4 then 7 else b) rfl rfl ⟨rfl, rfl, rfl, rfl, rfl, rfl, rfl, rfl, trivial⟩ ⟨?_, ?_, rfl, rfl, rfl, trivial⟩ rfl rfl rfl
              · have em : (d :: D).map agVal ++ [agVal (wtV v.l[i] ts[i] r)] = (d :: (D ++ [wtV v.l[i] ts[i] r])).map agVal := by simp
                exact congrArg (fun z => some (Blk.row 3 z false)) em
              · have em : (D ++ [wtV v.l[i] ts[i] r]).length + 1 = D.length + 1 + 1 := by simp
                exact congrArg (fun z => some (Blk.obj [.t (.v (.int .i64 v.n)), .t (.sl v.ns (v.s.map tInt)), .ref 7 3 0 z z])) em.symm
          · have hi2 : i = v.l.length := by omega
            have e : wtVs v.l ts a = d :: D := by rw [hA, List.drop_eq_nil_of_le (by omega), wtVs, List.append_nil]
            have e2 : hnTs (v.l.drop i) (ts.drop i) = [] := by rw [List.drop_eq_nil_of_le (by omega), hnTs]
            rw [hrest, e2, e]
            have e3 : v.l.isEmpty = false := by
              cases hl : v.l with
              | nil => rw [hl] at hi2; simp at hi2; omega
              | cons _ _ => rfl
            rw [e3]
            refine ComesCT.trees (xs := [_, _, _]) (.inr rfl) rfl rfl rfl rfl (.tree rfl (.tree rfl ?_))
            exact Rets.frozE rfl (by simp) (by simp [List.take_of_length_le, encVal_eta, encVals_map, Val.l]) .nil
end Go.Proofs.YtmhbibfkhbaclaaGreatDoor
