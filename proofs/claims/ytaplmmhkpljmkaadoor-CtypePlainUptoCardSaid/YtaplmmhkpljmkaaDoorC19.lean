/- Layer 13, the code: Places; the law's of. -/
import Derived.Test.YtaplmmhkpljmkaaDoorC18
namespace Go.Proofs.YtaplmmhkpljmkaaDoor
open Go E
set_option maxRecDepth 100000
set_option maxHeartbeats 4000000
set_option linter.unusedVariables false
set_option linter.unusedSimpArgs false
attribute [local irreducible] Tri TriL TriO PO VO E.Pure DOb
/-- Where fields lie, from s on. -/
def plF : Int → List Ty → List Int
  | _, [] => []
  | s, t :: ts => upN s (layN t).2 :: plF (upN s (layN t).2 + (layN t).1) ts
def placesN (t : Ty) : List Int := if t.kind = 13 ∨ t.kind = 14 then plF 0 t.l else []
theorem plF_len : ∀ (s : Int) (l : List Ty), (plF s l).length = l.length
  | _, [] => rfl
  | s, t :: ts => by rw [plF, List.length_cons, List.length_cons, plF_len]
theorem of_p (k : Int) (n : Bool) (l : List Ty) : E.Pure Tryd.prog 32 [tInt k, .sl n (encTys l)] (.one (.t (encTy (.mk k true [] n l 0)))) := by
  refine Pure.ofC rfl Tryd.func32 rfl rfl (Nat.le_of_ble_eq_true rfl) rfl ?_
  repeat' (first | refine Tri.seq ?_ | refine Tri.reg ?_ | refine TriL.nil ?_ | (apply U.moveT; rfl; trivial; rfl) | (apply U.alloc; rfl; rfl; rfl; rfl) | (apply U.storeS; rfl; rfl; rfl; rfl; rfl; rfl; rfl; rfl) | refine Tri.ret ?_ | (apply U.build; rfl; rfl; rfl; rfl; rfl) | fail)
  exact ComesC.tree rfl rfl rfl rfl rfl
theorem places_p (HN : LexName) (t : Ty) (hs : small t) : E.Pure Tryd.prog 23 [encTy t] (.one (.t (iT (if mayB t then placesN t else [])))) := by
  have hc := check_p HN t hs
  have hb2 := small_l hs
  unfold big at hb2
  have hlen := encTys_length t.l
  refine Pure.of1 Tryd.func23 rfl rfl (Nat.le_of_ble_eq_true rfl) rfl ?_
  rw [encTy_eta t] at *
  cases hm : mayB t with
  | false =>
    simp only [hm] at hc ⊢
    repeat' (first | refine Tri.seq ?_ | refine Tri.reg ?_ | refine TriL.nil ?_ | (apply U.moveT; rfl; trivial; rfl) | (apply U.assignT; rfl; trivial; rfl) | (apply U.bin; rfl; trivial; rfl; trivial; rfl; rfl) | (apply U.loadS; rfl; rfl; trivial; rfl; rfl; rfl; rfl; rfl) | (apply U.pickb; rfl; trivial; rfl; (first | trivial | exact id | exact And.right | exact gvA | exact gvB | exact And.left | exact gvN | exact gvP2 | exact gvN2 | exact gvLA); rfl; (first | trivial | exact id | exact And.right | exact gvA | exact gvB | exact And.left | exact gvN | exact gvP2 | exact gvN2 | exact gvLA); rfl) | (apply U.boxA; rfl; rfl) | (apply G.moveT; rfl; (first | trivial | exact id | exact And.right | exact gvA | exact gvB | exact And.left | exact gvN | exact gvP2 | exact gvN2 | exact gvLA); rfl; rfl; rfl) | (apply G.load; rfl; rfl; (first | trivial | exact id | exact And.right | exact gvA | exact gvB | exact And.left | exact gvN | exact gvP2 | exact gvN2 | exact gvLA); rfl; rfl; rfl; rfl; rfl) | (apply G.fld; rfl; (first | trivial | exact id | exact And.right | exact gvA | exact gvB | exact And.left | exact gvN | exact gvP2 | exact gvN2 | exact gvLA); rfl; infer_instance; decide; rfl; rfl; rfl) | (apply G.bin; rfl; (first | trivial | exact id | exact And.right | exact gvA | exact gvB | exact And.left | exact gvN | exact gvP2 | exact gvN2 | exact gvLA); rfl; (first | trivial | exact id | exact And.right | exact gvA | exact gvB | exact And.left | exact gvN | exact gvP2 | exact gvN2 | exact gvLA); rfl; rfl; rfl; rfl) | (apply G.pickb; rfl; (first | trivial | exact id | exact And.right | exact gvA | exact gvB | exact And.left | exact gvN | exact gvP2 | exact gvN2 | exact gvLA); rfl; (first | trivial | exact id | exact And.right | exact gvA | exact gvB | exact And.left | exact gvN | exact gvP2 | exact gvN2 | exact gvLA); rfl; (first | trivial | exact id | exact And.right | exact gvA | exact gvB | exact And.left | exact gvN | exact gvP2 | exact gvN2 | exact gvLA); rfl; rfl; rfl) | refine U.call1 rfl rfl (by assumption) rfl ?_ | refine Tri.ret ?_ | (refine Tri.cond rfl (fun h => ?_) (fun h => ?_) <;> (try simp at h) <;> (try contradiction)) | fail)
    · exact Comes1.ret rfl rfl
    all_goals (exfalso; simp at *; done)
  | true =>
    simp only [hm] at hc ⊢
    have hpl := (may_vd hm).1.pl (may_vd hm).2
    have hsm := layNs_sm t.l 1 hpl.sum (by omega)
    have hdl := hpl.dim.l
    have hp := hpl.sum
    have hlay : ∀ (i : Nat) (h : i < t.l.length), E.Pure Tryd.prog 42 [agTy t.l[i]] (.one (.t (cplx (layN t.l[i])))) := fun i h => by
      have := lay_p _ t.l[i] (Nat.le_refl _) (hpl.el _ (List.getElem_mem h)).1 (hpl.el _ (List.getElem_mem h)).2
      rwa [encTy_eta] at this
    repeat' (first | refine Tri.seq ?_ | refine Tri.reg ?_ | refine TriL.nil ?_ | (apply U.moveT; rfl; trivial; rfl) | (apply U.assignT; rfl; trivial; rfl) | (apply U.load; rfl; rfl; trivial; rfl; rfl; rfl) | (apply U.fld; rfl; trivial; rfl; infer_instance; decide; rfl) | (apply U.bin; rfl; trivial; rfl; trivial; rfl; rfl) | (apply U.len; rfl; trivial; rfl) | (apply U.loadS; rfl; rfl; trivial; rfl; rfl; rfl; rfl; rfl) | (apply U.pickb; rfl; trivial; rfl; (first | trivial | exact id | exact And.right | exact gvA | exact gvB | exact And.left | exact gvN | exact gvP2 | exact gvN2 | exact gvLA); rfl; (first | trivial | exact id | exact And.right | exact gvA | exact gvB | exact And.left | exact gvN | exact gvP2 | exact gvN2 | exact gvLA); rfl) | (apply U.boxA; rfl; rfl) | (apply G.moveT; rfl; (first | trivial | exact id | exact And.right | exact gvA | exact gvB | exact And.left | exact gvN | exact gvP2 | exact gvN2 | exact gvLA); rfl; rfl; rfl) | (apply G.load; rfl; rfl; (first | trivial | exact id | exact And.right | exact gvA | exact gvB | exact And.left | exact gvN | exact gvP2 | exact gvN2 | exact gvLA); rfl; rfl; rfl; rfl; rfl) | (apply G.fld; rfl; (first | trivial | exact id | exact And.right | exact gvA | exact gvB | exact And.left | exact gvN | exact gvP2 | exact gvN2 | exact gvLA); rfl; infer_instance; decide; rfl; rfl; rfl) | (apply G.bin; rfl; (first | trivial | exact id | exact And.right | exact gvA | exact gvB | exact And.left | exact gvN | exact gvP2 | exact gvN2 | exact gvLA); rfl; (first | trivial | exact id | exact And.right | exact gvA | exact gvB | exact And.left | exact gvN | exact gvP2 | exact gvN2 | exact gvLA); rfl; rfl; rfl; rfl) | (apply G.pickb; rfl; (first | trivial | exact id | exact And.right | exact gvA | exact gvB | exact And.left | exact gvN | exact gvP2 | exact gvN2 | exact gvLA); rfl; (first | trivial | exact id | exact And.right | exact gvA | exact gvB | exact And.left | exact gvN | exact gvP2 | exact gvN2 | exact gvLA); rfl; (first | trivial | exact id | exact And.right | exact gvA | exact gvB | exact And.left | exact gvN | exact gvP2 | exact gvN2 | exact gvLA); rfl; rfl; rfl) | refine U.call1 rfl rfl (by assumption) rfl ?_ | refine Tri.skip ?_ | refine Tri.block ?_ | refine Tri.ret ?_ | (refine Tri.cond rfl (fun h => ?_) (fun h => ?_) <;> (try simp at h) <;> (try contradiction)) | fail)
    · refine Comes1.ret rfl ?_
      have : ¬ (t.kind = 13 ∨ t.kind = 14) := by first | omega | (simp at *; omega)
      rw [if_pos trivial, placesN, if_neg this]; rfl
    · have hk : t.kind = 13 ∨ t.kind = 14 := by first | omega | (simp at *; omega)
      rw [if_pos trivial, placesN, if_pos hk]
      refine Tri.loopL (α := Nat × List Int × Int × Int) (fun a => match a.2.1 with
        | [] => ⟨[(24, .t (tInt a.1)), (23, .t (tInt t.l.length)), (22, .t (.sl t.nl (encTys t.l))), (4, .t (tInt a.2.2.1)), (3, .t (.sl true []))], Tryd.f23.ntmps, [], 0, 1⟩
        | y :: ys => ⟨[(24, .t (tInt a.1)), (23, .t (tInt t.l.length)), (22, .t (.sl t.nl (encTys t.l))), (4, .t (tInt a.2.2.1)), (3, .ref 0 1 0 (ys.length + 1) (ys.length + 1))], Tryd.f23.ntmps, [(0, .row 1 ((y :: ys).map tInt) false)], 0, 1⟩)
        (fun a => a.1 ≤ t.l.length ∧ a.2.1.length = a.1 ∧ plF 0 t.l = a.2.1 ++ plF a.2.2.1 (t.l.drop a.1) ∧ partsGo 1 t.l = partsGo a.2.2.2 (t.l.drop a.1) ∧ 0 ≤ a.2.2.1 ∧ a.2.2.1 ≤ 16 * (a.2.2.2 - 1) ∧ 1 ≤ a.2.2.2) (fun a => t.l.length - a.1) (0, [], 0, 1) ?_ ?_ ?_
      · exact ⟨Nat.zero_le _, rfl, rfl, rfl, by simp, by simp, by simp⟩
      · refine Sub.less (Sub.of rfl rfl ⟨rfl, ?_, rfl, rfl, rfl, trivial⟩ trivial)
        rw [← hlen]; rfl
      · rintro ⟨i, acc, s, n⟩ ⟨hi, hal, hr, hg, hs0, hs1, hn⟩
        have facts : ∀ (hlt : i < t.l.length), plF 0 t.l = acc ++ (upN s (layN t.l[i]).2 :: plF (upN s (layN t.l[i]).2 + (layN t.l[i]).1) (t.l.drop (i + 1))) ∧ partsGo 1 t.l = partsGo (n + pw t.l[i]) (t.l.drop (i + 1)) ∧ 1 ≤ (layN t.l[i]).2 ∧ (layN t.l[i]).2 ≤ 8 ∧ 0 ≤ (layN t.l[i]).1 ∧ (layN t.l[i]).1 ≤ max 0 (16 * pw t.l[i] - 8) ∧
            0 ≤ pw t.l[i] ∧ n + pw t.l[i] ≤ 500 ∧ s ≤ upN s (layN t.l[i]).2 ∧ upN s (layN t.l[i]).2 ≤ s + 7 ∧ upN s (layN t.l[i]).2 + (layN t.l[i]).1 ≤ 16 * (n + pw t.l[i] - 1) := by
          intro hlt
          dsimp only at hi hal hr hg hs0 hs1 hn
          have hsx := hsm t.l[i] (List.getElem_mem hlt)
          have hd := List.drop_eq_getElem_cons hlt
          rw [hd] at hr hg
          rw [plF] at hr
          have hp2 := partsGo_pw (n := n) (t := t.l[i]) (ts := t.l.drop (i + 1)) (by rw [← hg]; exact hp)
          rw [partsGo_cons (by omega)] at hg
          have hA := hsx.al.pos
          have q1 := hsx.s0
          have q2 := hsx.s1
          have q3 := pw_nonneg t.l[i]
          have q4 := upN_bd hs0 hsx.al
          refine ⟨hr, hg, hA.1, hA.2, q1, q2, q3, hp2.1, q4.1, q4.2, ?_⟩
          by_cases e : pw t.l[i] = 0
          · have : upN s (layN t.l[i]).2 = s := by
              have hk : t.l[i].kind = 0 := by
                unfold pw at e; split at e
                · assumption
                · have := partsN_le t.l[i]; omega
              rw [layN_zero hk]; simp [upN]
            omega
          · omega
        rcases acc with _ | ⟨y, ys⟩
        · dsimp only at hi hal hr hg hs0 hs1 hn ⊢
          repeat' (first | refine Tri.seq ?_ | refine Tri.reg ?_ | refine TriL.nil ?_ | (apply U.moveT; rfl; trivial; rfl) | (apply U.assignT; rfl; trivial; rfl) | (apply U.bin; rfl; trivial; rfl; trivial; rfl; rfl) | refine Tri.skip ?_ | refine Tri.block ?_ | refine Tri.exit ?_ | refine Tri.ret ?_ | (refine Tri.cond rfl (fun h => ?_) (fun h => ?_) <;> (try simp at h) <;> (try contradiction)) | fail)
          · have hlt : i < t.l.length := by omega
            obtain ⟨f1, f2, f3, f4, f5, f6, f7, f8, f9, f10, f11⟩ := facts hlt
            have hget := get_ty hlt
            have hlay := hlay i hlt
            have hfA : floatToIntVal .f64 (fl (layN t.l[i]).2) .i64 = some (layN t.l[i]).2 := f2i (by omega) (by omega)
            have hfS : floatToIntVal .f64 (fl (layN t.l[i]).1) .i64 = some (layN t.l[i]).1 := f2i (by omega) (by omega)
            have hup := up_p s (layN t.l[i]).2 hs0 (by omega) (by omega) (by omega)
            repeat' (first | refine Tri.seq ?_ | refine Tri.reg ?_ | refine TriL.nil ?_ | (apply U.moveT; rfl; trivial; rfl) | (apply U.assignT; rfl; trivial; rfl) | (apply U.loadES; rfl; rfl; trivial; rfl; rfl; rfl) | (apply U.loadS; rfl; rfl; trivial; rfl; rfl; rfl; rfl; rfl) | (apply U.idx; rfl; trivial; rfl; trivial; exact fun _ => (by omega); exact fun _ => (by assumption); exact fun _ => rfl; rfl) | (apply U.alloc; rfl; rfl; rfl; rfl) | (apply U.storeS; rfl; rfl; rfl; rfl; rfl; rfl; rfl; rfl) | (apply U.imag; rfl; trivial; rfl) | (apply U.f2i; rfl; trivial; exact fun _ => (by assumption); rfl) | refine U.call1 rfl rfl (by assumption) rfl ?_ | refine U.call2 rfl rfl rfl (by assumption) rfl ?_ | fail)
            (apply U.litT; rfl; rfl; rfl; rfl; rfl; rfl; rfl; rfl)
            skip
            refine U.appNil rfl (SrcE.t (n := false) rfl (leaves_int [_])) (by simp) (by simp) (by simp) rfl ?_
            repeat' (first | refine Tri.reg ?_ | refine TriL.nil ?_ | (apply U.moveT; rfl; trivial; rfl) | (apply U.assignT; rfl; trivial; rfl) | (apply U.assignR; rfl; trivial; rfl) | (apply U.add; rfl; trivial; rfl; trivial; exact fun _ => wrap_i64 (by omega) (by omega); rfl) | (apply U.real; rfl; trivial; rfl) | (apply U.f2i; rfl; trivial; exact fun _ => (by assumption); rfl) | fail)
            refine ⟨(i + 1, [upN s (layN t.l[i]).2], upN s (layN t.l[i]).2 + (layN t.l[i]).1, n + pw t.l[i]), ⟨hlt, by simp at hal ⊢; omega, by simpa using f1, f2, by dsimp only; omega, by dsimp only; omega, by dsimp only; omega⟩, by dsimp only; omega, Less.ren (fun b => if b = 0 then 2 else b) rfl rfl ⟨rfl, rfl, rfl, rfl, ?_, trivial⟩ ⟨rfl, trivial⟩ rfl rfl rfl⟩
            refine congrArg some ?_
            show PV.ref 2 1 0 _ _ = PV.ref 2 1 0 _ _
            simp
          · refine Comes1.ret rfl ?_
            have : i = t.l.length := by omega
            subst this
            rw [List.drop_length, plF] at hr
            rw [hr]; rfl
        · dsimp only at hi hal hr hg hs0 hs1 hn ⊢
          repeat' (first | refine Tri.seq ?_ | refine Tri.reg ?_ | refine TriL.nil ?_ | (apply U.moveR; rfl; trivial; rfl) | (apply U.assignR; rfl; trivial; rfl) | (apply U.bin; rfl; trivial; rfl; trivial; rfl; rfl) | refine Tri.skip ?_ | refine Tri.block ?_ | refine Tri.exit ?_ | refine Tri.ret ?_ | (refine Tri.cond rfl (fun h => ?_) (fun h => ?_) <;> (try simp at h) <;> (try contradiction)) | fail)
          · have hlt : i < t.l.length := by omega
            obtain ⟨f1, f2, f3, f4, f5, f6, f7, f8, f9, f10, f11⟩ := facts hlt
            have hget := get_ty hlt
            have hlay := hlay i hlt
            have hfA : floatToIntVal .f64 (fl (layN t.l[i]).2) .i64 = some (layN t.l[i]).2 := f2i (by omega) (by omega)
            have hfS : floatToIntVal .f64 (fl (layN t.l[i]).1) .i64 = some (layN t.l[i]).1 := f2i (by omega) (by omega)
            have hup := up_p s (layN t.l[i]).2 hs0 (by omega) (by omega) (by omega)
            have hyl : ys.length ≤ 64 := by simp at hal; omega
            repeat' (first | refine Tri.seq ?_ | refine Tri.reg ?_ | refine TriL.nil ?_ | (apply U.moveT; rfl; trivial; rfl) | (apply U.assignT; rfl; trivial; rfl) | (apply U.moveR; rfl; trivial; rfl) | (apply U.loadES; rfl; rfl; trivial; rfl; rfl; rfl) | (apply U.loadS; rfl; rfl; trivial; rfl; rfl; rfl; rfl; rfl) | (apply U.idx; rfl; trivial; rfl; trivial; exact fun _ => (by omega); exact fun _ => (by assumption); exact fun _ => rfl; rfl) | (apply U.alloc; rfl; rfl; rfl; rfl) | (apply U.storeS; rfl; rfl; rfl; rfl; rfl; rfl; rfl; rfl) | (apply U.imag; rfl; trivial; rfl) | (apply U.f2i; rfl; trivial; exact fun _ => (by assumption); rfl) | refine U.call1 rfl rfl (by assumption) rfl ?_ | refine U.call2 rfl rfl rfl (by assumption) rfl ?_ | fail)
            (apply U.litT; rfl; rfl; rfl; rfl; rfl; rfl; rfl; rfl)
            skip
            refine U.appOwn rfl rfl (by simp) (by simp) (SrcE.t rfl (leaves_int [_])) (by simp; omega) (by simp; omega) rfl ?_
            repeat' (first | refine Tri.reg ?_ | refine TriL.nil ?_ | (apply U.moveT; rfl; trivial; rfl) | (apply U.assignT; rfl; trivial; rfl) | (apply U.assignR; rfl; trivial; rfl) | (apply U.add; rfl; trivial; rfl; trivial; exact fun _ => wrap_i64 (by omega) (by omega); rfl) | (apply U.real; rfl; trivial; rfl) | (apply U.f2i; rfl; trivial; exact fun _ => (by assumption); rfl) | fail)
            refine ⟨(i + 1, y :: (ys ++ [upN s (layN t.l[i]).2]), upN s (layN t.l[i]).2 + (layN t.l[i]).1, n + pw t.l[i]), ⟨hlt, by simp at hal ⊢; omega, by rw [f1]; simp, f2, by dsimp only; omega, by dsimp only; omega, by dsimp only; omega⟩, by dsimp only; omega, Less.ren (fun b => if b = 0 then 2 else b) rfl rfl ⟨rfl, rfl, rfl, rfl, ?_, trivial⟩ ⟨?_, trivial⟩ rfl rfl rfl⟩
            · refine congrArg some ?_
              show PV.ref 2 1 0 _ _ = PV.ref 2 1 0 _ _
              simp
            · refine congrArg some ?_
              show Blk.row 1 _ false = Blk.row 1 _ false
              simp
          · refine Comes1.retF rfl rfl (by simp) ?_
            have : i = t.l.length := by omega
            subst this
            rw [List.drop_length, plF] at hr
            rw [hr]
            simp [iT]
            exact List.take_of_length_le (by simp)
end Go.Proofs.YtaplmmhkpljmkaaDoor
