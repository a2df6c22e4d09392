/- Layer 13: the law CtypePlain answers true. -/
import Derived.Test.YtaplmmhkpljmkaaDoorC27
namespace Go.Proofs.YtaplmmhkpljmkaaDoor
open Go E
set_option maxRecDepth 100000
set_option maxHeartbeats 4000000
set_option linter.unusedVariables false
set_option linter.unusedSimpArgs false
theorem E.U.call0 {P : Program} {d ty : Nat} {pos : String} {af : Array Edge} {K : St → Prop} {ops : Array Oper} {l_ : List Oper} {tm_ : List (Nat × PV)} {N_ lo_ n_ : Nat} {hp_ : List (Nat × Blk)} {x : Operand} {f : FuncId} {ts : Array TypeId} {r : T} [hf : FnIs P f] (hx : evt tm_ x = .t (.v (.func (.func f) #[] #[]))) (hr : E.Pure P f [] (.one (.t r))) (hN : Nat.blt d N_ = true)
    (hK : TriL P ops l_ K ⟨(d, .t r) :: tm_, N_, hp_, lo_, n_⟩) : TriL P ops (⟨some d, .call ⟨.value x, #[], ts⟩, ty, pos, af, none⟩ :: l_) K ⟨tm_, N_, hp_, lo_, n_⟩ :=
  .cons rfl (.call (xs := []) (s1 := ⟨tm_, N_, hp_, lo_, n_⟩) hx rfl .nil hr hN hK)
attribute [local irreducible] Tri TriL TriO PO VO E.Pure DOb
theorem smalls_all : ∀ {l : List Ty}, (∀ x ∈ l, small x) → smalls l
  | [], _ => trivial
  | t :: ts, h => ⟨h t (by simp), smalls_all fun x hx => h x (by simp [hx])⟩
theorem smalls_at {l : List Ty} (h : smalls l) {x : Ty} (hx : x ∈ l) : small x := by
  obtain ⟨i, hi, rfl⟩ := List.getElem_of_mem hx
  exact smalls_get h (List.getElem?_eq_getElem hi)
theorem digT_size (n : Nat) : (digT n).size ≤ 2 := by unfold digT; split <;> simp [ByteArray.size]
theorem two_big (a b : ByteArray) (ha : a.size ≤ big) (hb : b.size ≤ big) : [a, b].length ≤ big ∧ ∀ s ∈ [a, b], s.size ≤ big := by
  refine ⟨show 2 ≤ big by decide, fun s h => ?_⟩
  simp only [List.mem_cons, List.not_mem_nil, or_false] at h
  rcases h with rfl | rfl
  · exact ha
  · exact hb
theorem small_plain (z : Bool) {t : Ty} (hs : small t) (hd : Dim t) : small (plainT z t) := by
  have hl : smalls (plainT z t).l := smalls_all fun x hx => by
    rcases plainT_el hx with e | e
    · rw [e]; exact ⟨by unfold big; simp, fun s h => by simp at h, by unfold big; simp, trivial⟩
    · exact smalls_at (small_ls hs) e
  have hll := (plainT_len (z := z) hd).1
  have hn : (plainT z t).names.length ≤ big ∧ ∀ s ∈ (plainT z t).names, s.size ≤ big := by
    have h1 := small_names hs
    have h2 := small_name hs
    have h3 := hd.l
    unfold plainT
    split
    · show (digs t.l.length).length ≤ big ∧ ∀ s ∈ digs t.l.length, s.size ≤ big
      refine ⟨by simp [digs, big]; omega, fun s h => ?_⟩
      simp only [digs, List.mem_map] at h
      obtain ⟨n, _, rfl⟩ := h
      have := digT_size n; unfold big; omega
    split
    · exact ⟨h1, h2⟩
    split
    · exact two_big _ _ (by decide) (by decide)
    split
    · exact two_big _ _ (by decide) (by decide)
    · exact ⟨h1, h2⟩
  cases hx : plainT z t with
  | mk k nn ns nl l r =>
    rw [hx] at hl hll hn
    exact ⟨hn.1, hn.2, by have : l.length ≤ 65 := hll
                          unfold big; omega, hl⟩
theorem sameT_plain (t : Ty) : sameT (plainT false t) (plainT true t) = true := by
  unfold plainT
  split
  · exact sameT_refl _
  split
  · rw [sameT]; simp [Ty.kind, Ty.r, Ty.names, Ty.l, sameTs_refl]
  split
  · exact sameT_refl _
  split
  · exact sameT_refl _
  · exact sameT_refl _
theorem ctypePlain_p (t : Ty) (ht : small t) : E.Pure Tryd.prog 3 [encTy t] (.one (.t (tBool true))) := by
  have h2 := may_p t ht
  have h5 := awake_p lexName_p
  cases hm : mayB t with
  | false =>
    rw [hm] at h2
    refine Pure.of1 Tryd.func3 rfl rfl (Nat.le_of_ble_eq_true rfl) rfl ?_
    rw [encTy_eta] at *
    repeat' (first | refine Tri.seq ?_ | refine Tri.reg ?_ | refine TriL.nil ?_ | (apply U.assignT; rfl; trivial; rfl) | (apply U.loadS; rfl; rfl; trivial; rfl; rfl; rfl; rfl; rfl) | (apply U.not; rfl; trivial; rfl) | (apply U.boxA; rfl; rfl) | refine U.call1 rfl rfl (by assumption) rfl ?_ | (refine Tri.cond rfl (fun h => ?_) (fun h => ?_) <;> (try simp at h) <;> (try contradiction)) | fail)
    refine E.U.call0 rfl h5 rfl ?_
    repeat' (first | refine TriL.nil ?_ | (apply U.assignT; rfl; trivial; rfl) | refine Tri.ret ?_ | fail)
    exact Comes1.ret rfl rfl
  | true =>
    rw [hm] at h2
    obtain ⟨hv, hp⟩ := may_vd hm
    have hd := hv.dim
    have hg := hv.gdPlain false hp
    have hpl := plain_p t hd.nm hd.l
    have hplR := plainR_p t hd.nm hd.l
    have hss := small_plain false ht hd
    have hst := sameType_p _ (plainT false t) (plainT true t) (Nat.le_refl _) hss (small_plain true ht hd)
    rw [sameT_plain] at hst
    have hco := cores_p _ (plainT false t) (Nat.le_refl _) hg
    have hfl := Flat_p lexName_p t ht
    have hsz := sized_p _ (plainT false t) (Nat.le_refl _) hss hg
    have hal := aligned_p _ (plainT false t) (Nat.le_refl _) hss
    have hsz2 := size_p lexName_p t ht
    have hal2 := align_p lexName_p t ht
    have hlf := len_fl hp
    have hsame := same_p (flN t) (flN t) (flN t).isEmpty (flN t).isEmpty (by unfold big; omega) (by unfold big; omega)
    rw [(alN_law _ _ (Nat.le_refl _) hg).1, layN_plain] at hal
    rw [layN_plain] at hsz
    rw [flN_plain] at hco
    simp only [hm, if_true, decide_true] at hfl hsz2 hal2 hsame
    have hk := plainT_kind t false
    generalize plainT false t = x at *
    generalize plainT true t = y at *
    clear hg hss hd hv hp ht hlf hm
    refine Pure.of1 Tryd.func3 rfl rfl (Nat.le_of_ble_eq_true rfl) rfl ?_
    rw [encTy_eta t, encTy_eta x, encTy_eta y] at *
    repeat' (first | refine Tri.seq ?_ | refine Tri.reg ?_ | refine TriL.nil ?_ | (apply U.assignT; rfl; trivial; rfl) | (apply U.loadS; rfl; rfl; trivial; rfl; rfl; rfl; rfl; rfl) | (apply U.not; rfl; trivial; rfl) | (apply U.boxA; rfl; rfl) | (apply U.alloc; rfl; rfl; rfl; rfl) | (apply U.storeS; rfl; rfl; rfl; rfl; rfl; rfl; rfl; rfl) | refine U.call1 rfl rfl (by assumption) rfl ?_ | refine Tri.skip ?_ | (refine Tri.cond rfl (fun h => ?_) (fun h => ?_) <;> (try simp at h) <;> (try contradiction)) | fail)
    refine Tri.regD [] mixed (by kernel_rfl) ?_
    repeat' (first | refine Tri.seq ?_ | refine Tri.reg ?_ | refine TriL.nil ?_ | exact ⟨rfl, rfl, rfl⟩ | (apply D.v; rfl; rfl; rfl) | refine D.nil ?_ | (apply U.moveT; rfl; trivial; rfl) | (apply U.load; rfl; rfl; trivial; rfl; rfl; rfl) | (apply U.fld; rfl; trivial; rfl; infer_instance; decide; rfl) | (apply U.bin; rfl; trivial; rfl; trivial; rfl; rfl) | (apply U.loadS; rfl; rfl; trivial; rfl; rfl; rfl; rfl; rfl) | (apply U.not; rfl; trivial; rfl) | (apply U.pickb; rfl; trivial; rfl; (first | trivial | exact id | exact And.right | exact gvA | exact gvB | exact And.left | exact gvN | exact gvP2 | exact gvN2 | exact gvLA); rfl; (first | trivial | exact id | exact And.right | exact gvA | exact gvB | exact And.left | exact gvN | exact gvP2 | exact gvN2 | exact gvLA); rfl) | (apply G.load; rfl; rfl; (first | trivial | exact id | exact And.right | exact gvA | exact gvB | exact And.left | exact gvN | exact gvP2 | exact gvN2 | exact gvLA); rfl; rfl; rfl; rfl; rfl) | (apply G.fld; rfl; (first | trivial | exact id | exact And.right | exact gvA | exact gvB | exact And.left | exact gvN | exact gvP2 | exact gvN2 | exact gvLA); rfl; infer_instance; decide; rfl; rfl; rfl) | (apply G.bin; rfl; (first | trivial | exact id | exact And.right | exact gvA | exact gvB | exact And.left | exact gvN | exact gvP2 | exact gvN2 | exact gvLA); rfl; (first | trivial | exact id | exact And.right | exact gvA | exact gvB | exact And.left | exact gvN | exact gvP2 | exact gvN2 | exact gvLA); rfl; rfl; rfl; rfl) | (apply G.loadS; rfl; rfl; (first | trivial | exact id | exact And.right | exact gvA | exact gvB | exact And.left | exact gvN | exact gvP2 | exact gvN2 | exact gvLA); rfl; rfl; rfl; rfl; rfl; rfl; rfl) | (apply G.not; rfl; (first | trivial | exact id | exact And.right | exact gvA | exact gvB | exact And.left | exact gvN | exact gvP2 | exact gvN2 | exact gvLA); rfl; rfl; rfl) | refine U.call1 rfl rfl (by assumption) rfl ?_ | refine U.call2 rfl rfl rfl (by assumption) rfl ?_ | refine G.call1 rfl rfl (by (first | trivial | exact id | exact And.right | exact gvA | exact gvB | exact And.left | exact gvN | exact gvP2 | exact gvN2 | exact gvLA)) (by first | assumption | exact fun _ => by assumption) rfl rfl rfl ?_ | refine G.call2 rfl rfl (by (first | trivial | exact id | exact And.right | exact gvA | exact gvB | exact And.left | exact gvN | exact gvP2 | exact gvN2 | exact gvLA)) rfl (by (first | trivial | exact id | exact And.right | exact gvA | exact gvB | exact And.left | exact gvN | exact gvP2 | exact gvN2 | exact gvLA)) (by first | assumption | exact fun _ => by assumption) rfl rfl rfl ?_ | refine Tri.skip ?_ | (refine Tri.cond rfl (fun h => ?_) (fun h => ?_) <;> (try simp at h) <;> (try contradiction)) | fail)
    · refine E.G.call0 rfl (fun _ => h5) rfl rfl rfl ?_
      repeat' (first | refine TriL.nil ?_ | (apply U.assignT; rfl; trivial; rfl) | (apply U.pickb; rfl; trivial; rfl; (first | trivial | exact id | exact And.right | exact gvA | exact gvB | exact And.left | exact gvN | exact gvP2 | exact gvN2 | exact gvLA); rfl; (first | trivial | exact id | exact And.right | exact gvA | exact gvB | exact And.left | exact gvN | exact gvP2 | exact gvN2 | exact gvLA); rfl) | refine Tri.ret ?_ | fail)
      refine Comes1.ret rfl (retB ?_)
      simp [hk]
end Go.Proofs.YtaplmmhkpljmkaaDoor
