/- Other handles: the code's whole function, the law. -/
import Derived.Test.YtmhbibfkhbaclaaGreatDoorK35
import Derived.Test.YtmhbibfkhbaclaaGreatDoorK37
import Derived.Test.YtmhbibfkhbaclaaGreatDoorK38
namespace Go.Proofs.YtmhbibfkhbaclaaGreatDoor
open Go E
set_option maxRecDepth 100000
set_option maxHeartbeats 4000000
set_option linter.unusedVariables false
set_option linter.unusedSimpArgs false
attribute [local irreducible] Tri TriL TriO PO VO E.Pure DOb XOb
def numB (x : Int) : Bool := decide (0 ≤ x ∧ x < 4294967296)
theorem notNum_p (p : Int) : E.Pure Tryz.prog 19 [tInt p] (.one (.t (tBool (!numB p)))) := by
  refine Pure.of1 Tryz.func19 rfl rfl (Nat.le_of_ble_eq_true rfl) rfl ?_
  repeat' (first | refine Tri.seq ?_ | refine Tri.reg ?_ | refine TriL.nil ?_ | (apply U.moveT; rfl; trivial; rfl) | (apply U.assignT; rfl; trivial; rfl) | (apply U.bin; rfl; trivial; rfl; trivial; rfl; rfl) | (apply U.pickb; rfl; trivial; rfl; (first | trivial | exact id | exact And.right | exact gvA | exact gvB | exact And.left | exact gvN | exact gvP2 | exact gvN2 | exact gvLA); rfl; (first | trivial | exact id | exact And.right | exact gvA | exact gvB | exact And.left | exact gvN | exact gvP2 | exact gvN2 | exact gvLA); rfl) | (apply G.moveT; rfl; (first | trivial | exact id | exact And.right | exact gvA | exact gvB | exact And.left | exact gvN | exact gvP2 | exact gvN2 | exact gvLA); rfl; rfl; rfl) | (apply G.bin; rfl; (first | trivial | exact id | exact And.right | exact gvA | exact gvB | exact And.left | exact gvN | exact gvP2 | exact gvN2 | exact gvLA); rfl; (first | trivial | exact id | exact And.right | exact gvA | exact gvB | exact And.left | exact gvN | exact gvP2 | exact gvN2 | exact gvLA); rfl; rfl; rfl; rfl) | refine Tri.ret ?_ | fail)
  refine Comes1.ret rfl (retB ?_)
  rw [Bool.eq_iff_iff]
  simp [numB]
/-- Where the first one is that is no number of 32 bits. -/
def idxN : Int → List Int → Int
  | _, [] => -1
  | i, x :: xs => if numB x = true then idxN (i + 1) xs else i
theorem idxN_step {l : List Int} {i : Nat} {k : Int} (h : i < l.length) : idxN k (l.drop i) = if numB l[i] = true then idxN (k + 1) (l.drop (i + 1)) else k := by
  rw [List.drop_eq_getElem_cons h, idxN]
theorem idxN_pos : ∀ (l : List Int) (k : Int), 0 ≤ k → (decide (idxN k l ≥ 0) = !l.all numB)
  | [], k, _ => rfl
  | x :: xs, k, hk => by
    rw [idxN, List.all_cons]
    split
    · rename_i e; rw [e, idxN_pos xs (k + 1) (by omega)]; simp
    · rename_i e; simp [e]; exact hk
abbrev fnNm : T := .v (.func (.func 19) #[] #[])
theorem indexN_p (l : List Int) (nn : Bool) (hb : l.length ≤ big) : E.Pure Tryz.prog 30 [.sl nn (l.map tInt), fnNm] (.one (.t (tInt (idxN 0 l)))) := by
  unfold big at hb
  have hlen : (l.map tInt).length = l.length := by simp
  refine Pure.of1 Tryz.func30 rfl rfl (Nat.le_of_ble_eq_true rfl) rfl ?_
  repeat' (first | refine Tri.seq ?_ | refine Tri.reg ?_ | refine TriL.nil ?_ | (apply U.moveT; rfl; trivial; rfl) | (apply U.assignT; rfl; trivial; rfl) | (apply U.len; rfl; trivial; rfl) | refine Tri.block ?_ | fail)
  refine Tri.loopS (α := Nat) (fun i => ⟨[(8, .t (tInt i)), (7, .t (tInt l.length)), (1, .t fnNm), (0, .t (.sl nn (l.map tInt)))], Tryz.f30.ntmps, [], 0, 0⟩)
    (fun i => i ≤ l.length ∧ idxN 0 l = idxN i (l.drop i)) (fun i => l.length - i) 0 ?_ ?_ ?_
  · exact ⟨Nat.zero_le _, rfl⟩
  · refine Sub.of rfl rfl ⟨rfl, ?_, rfl, rfl, trivial⟩ trivial
    rw [← hlen]; rfl
  · rintro i ⟨hi, hn⟩
    repeat' (first | refine Tri.seq ?_ | refine Tri.reg ?_ | refine TriL.nil ?_ | (apply U.moveT; rfl; trivial; rfl) | (apply U.assignT; rfl; trivial; rfl) | (apply U.bin; rfl; trivial; rfl; trivial; rfl; rfl) | refine Tri.skip ?_ | refine Tri.block ?_ | refine Tri.exit ?_ | refine Tri.ret ?_ | (refine Tri.cond rfl (fun h => ?_) (fun h => ?_) <;> (try simp at h) <;> (try contradiction)) | fail)
    · have hlt : i < l.length := by omega
      have hget := get_int hlt
      have hstep := idxN_step (k := i) hlt
      have h1 := notNum_p l[i]
      repeat' (first | refine Tri.seq ?_ | refine Tri.reg ?_ | refine TriL.nil ?_ | (apply U.moveT; rfl; trivial; rfl) | (apply U.assignT; rfl; trivial; rfl) | (apply U.add; rfl; trivial; rfl; trivial; exact fun _ => wrap_i64 (by omega) (by omega); rfl) | (apply U.loadE; rfl; rfl; trivial; rfl; rfl) | (apply U.idx; rfl; trivial; rfl; trivial; exact fun _ => (by omega); exact fun _ => (by assumption); exact fun _ => rfl; rfl) | refine U.call1 rfl rfl (by assumption) rfl ?_ | refine Tri.skip ?_ | refine Tri.ret ?_ | (refine Tri.cond rfl (fun h => ?_) (fun h => ?_) <;> (try simp at h) <;> (try contradiction)) | fail)
      · refine Comes1.ret rfl ?_
        rw [hn, hstep, if_neg (by simpa using h)]
      · refine ⟨i + 1, ⟨by omega, ?_⟩, by omega, Sub.of rfl rfl ⟨rfl, rfl, rfl, rfl, trivial⟩ trivial⟩
        rw [hn, hstep, if_pos (by simpa using h)]; rfl
    · refine Comes1.ret rfl ?_
      have : i = l.length := by omega
      subst this
      rw [hn, List.drop_length, idxN]; rfl
theorem containsN_p (l : List Int) (nn : Bool) (hb : l.length ≤ big) : E.Pure Tryz.prog 18 [.sl nn (l.map tInt), fnNm] (.one (.t (tBool (!l.all numB)))) := by
  have h1 := indexN_p l nn hb
  refine Pure.of1 Tryz.func18 rfl rfl (Nat.le_of_ble_eq_true rfl) rfl ?_
  repeat' (first | refine Tri.seq ?_ | refine Tri.reg ?_ | refine TriL.nil ?_ | (apply U.moveT; rfl; trivial; rfl) | (apply U.assignT; rfl; trivial; rfl) | (apply U.bin; rfl; trivial; rfl; trivial; rfl; rfl) | refine U.call2 rfl rfl rfl (by assumption) rfl ?_ | refine Tri.ret ?_ | fail)
  exact Comes1.ret rfl (retB (idxN_pos l 0 (by omega)))
def zeroV : Val := .mk 0 true [] true []
/-- What With answers. -/
def withT (t : Ty) (v : Val) (n : List Int) : Val × Int :=
  if checkV t v ≠ 0 then (zeroV, checkV t v)
  else if (hnT v t).length = n.length ∧ n.all numB = true then (wtV v t n, 0) else (zeroV, 1)
theorem With_p (t : Ty) (v : Val) (n : List Int) (nn : Bool) (ht : small t) (hs : smallV v) (hb : n.length ≤ big) : E.Pure Tryz.prog 6 [encTy t, encVal v, .sl nn (n.map tInt)] (.tup [.t (encVal (withT t v n).1), .t (tInt (withT t v n).2)]) := by
  have h1 := vcheck_p lexName_p t v ht hs
  have h2 : checkV t v = 0 → E.Pure Tryz.prog 17 [encTy t, encVal v] (.tup [.t (hTree (hnT v t)), .t (nTree (hnN v t))]) := fun h =>
    let ⟨a, b⟩ := check_ok h
    handles_p _ v t (Nat.le_refl _) hs (may_k a).1 (may_k a).2 b
  have h3 := containsN_p n nn hb
  have h4 : checkV t v = 0 → (hnT v t).length ≤ n.length → E.Pure Tryz.prog 20 [encTy t, encVal v, .sl nn (n.map tInt)] (.tup [.t (encVal (wtV v t n)), .t (.sl nn ((n.drop (hnT v t).length).map tInt))]) := fun h hl =>
    let ⟨a, b⟩ := check_ok h
    with_p _ v t nn n (Nat.le_refl _) hs (may_k a).1 (may_k a).2 b hl hb
  have hl := hn_len v t
  have hc : checkV t v = 0 → (hnT v t).length ≤ 4000 := fun h => Nat.le_trans (hn_le v t (check_ok h).2) (partV_le v t)
  have hlT : ((hnT v t).map agTy).length = (hnT v t).length := by simp
  have hlN : ((hnN v t).map tInt).length = (hnN v t).length := by simp
  have hln : (n.map tInt).length = n.length := by simp
  unfold big at hb
  refine Pure.ofCT rfl Tryz.func6 rfl rfl (Nat.le_of_ble_eq_true rfl) rfl ?_
  rw [encTy_eta] at h1 h2 h4 ⊢
  rw [encVal_eta v] at h1 h2 h4 ⊢
  rw [encVal_eta (wtV v t n)] at h4
  rw [encVal_eta (withT t v n).1]
  repeat' (first | refine Tri.seq ?_ | refine Tri.reg ?_ | refine TriL.nil ?_ | (apply U.moveT; rfl; trivial; rfl) | (apply U.assignT; rfl; trivial; rfl) | (apply U.bin; rfl; trivial; rfl; trivial; rfl; rfl) | (apply U.loadS; rfl; rfl; trivial; rfl; rfl; rfl; rfl; rfl) | (apply U.boxA; rfl; rfl) | (apply U.alloc; rfl; rfl; rfl; rfl) | (apply U.storeS; rfl; rfl; rfl; rfl; rfl; rfl; rfl; rfl) | refine U.call2 rfl rfl rfl (by assumption) rfl ?_ | refine Tri.skip ?_ | refine Tri.ret ?_ | (apply U.build; rfl; rfl; rfl; rfl; rfl) | (refine Tri.cond rfl (fun h => ?_) (fun h => ?_) <;> (try simp at h) <;> (try contradiction)) | fail)
  · rw [withT, if_pos h]
    exact ComesCT.trees (.inr rfl) rfl rfl rfl rfl (.tree rfl (.tree rfl (.tree rfl .nil)))
  · have h5 := h2 h
    have h6 := h4 h
    have h7 := hc h
    have hk : ¬ checkV t v ≠ 0 := fun e => e h
    rw [withT, if_neg hk]
    repeat' (first | refine Tri.seq ?_ | refine Tri.reg ?_ | refine TriL.nil ?_ | (apply U.moveT; rfl; trivial; rfl) | (apply U.assignT; rfl; trivial; rfl) | (apply U.moveU; rfl; trivial; rfl) | (apply U.bin; rfl; trivial; rfl; trivial; rfl; rfl) | (apply U.len; rfl; trivial; rfl) | (apply U.loadS; rfl; rfl; trivial; rfl; rfl; rfl; rfl; rfl) | (apply U.ext; rfl; trivial; rfl; rfl) | (apply U.pickb; rfl; trivial; rfl; (first | trivial | exact id | exact And.right | exact gvA | exact gvB | exact And.left | exact gvN | exact gvP2 | exact gvN2 | exact gvLA); rfl; (first | trivial | exact id | exact And.right | exact gvA | exact gvB | exact And.left | exact gvN | exact gvP2 | exact gvN2 | exact gvLA); rfl) | (apply U.storeS; rfl; rfl; rfl; rfl; rfl; rfl; rfl; rfl) | (apply G.moveT; rfl; (first | trivial | exact id | exact And.right | exact gvA | exact gvB | exact And.left | exact gvN | exact gvP2 | exact gvN2 | exact gvLA); rfl; rfl; rfl) | refine G.call2 rfl rfl (by (first | trivial | exact id | exact And.right | exact gvA | exact gvB | exact And.left | exact gvN | exact gvP2 | exact gvN2 | exact gvLA)) rfl (by (first | trivial | exact id | exact And.right | exact gvA | exact gvB | exact And.left | exact gvN | exact gvP2 | exact gvN2 | exact gvLA)) (by first | assumption | exact fun _ => by assumption) rfl rfl rfl ?_ | refine Tri.skip ?_ | refine Tri.ret ?_ | (apply U.build; rfl; rfl; rfl; rfl; rfl) | refine U.callP2 rfl rfl rfl (by assumption) rfl ?_ | (refine Tri.cond rfl (fun h => ?_) (fun h => ?_) <;> (try simp at h) <;> (try contradiction)) | fail)
    · rw [if_neg]
      · exact ComesCT.trees (.inr rfl) rfl rfl rfl rfl (.tree rfl (.tree rfl (.tree rfl .nil)))
      · rintro ⟨e1, e2⟩
        rcases h with h | ⟨x, hx, hx2⟩
        · omega
        · rw [List.all_eq_true] at e2
          rw [e2 x hx] at hx2; cases hx2
    · have h8 := h6 (by omega)
      rw [if_pos ⟨by omega, List.all_eq_true.2 h.2⟩]
      repeat' (first | refine Tri.seq ?_ | refine Tri.reg ?_ | refine TriL.nil ?_ | (apply U.assignT; rfl; trivial; rfl) | (apply U.moveU; rfl; trivial; rfl) | (apply U.loadS; rfl; rfl; trivial; rfl; rfl; rfl; rfl; rfl) | (apply U.ext; rfl; trivial; rfl; rfl) | (apply U.alloc; rfl; rfl; rfl; rfl) | (apply U.storeS; rfl; rfl; rfl; rfl; rfl; rfl; rfl; rfl) | refine Tri.ret ?_ | refine U.callP3 rfl rfl rfl rfl (by assumption) rfl ?_ | fail)
      exact ComesCT.trees (.inr rfl) rfl rfl rfl rfl (.tree rfl (.tree rfl (.tree rfl .nil)))
end Go.Proofs.YtmhbibfkhbaclaaGreatDoor
