/- Layer 13: the reference's Inside, Sized. -/
import Derived.Test.YtaplmmhkpljmkaaDoorC24
namespace Go.Proofs.YtaplmmhkpljmkaaDoor
open Go E
set_option maxRecDepth 100000
set_option maxHeartbeats 4000000
set_option linter.unusedVariables false
set_option linter.unusedSimpArgs false
attribute [local irreducible] Tri TriL TriO PO VO E.Pure DOb
theorem Vd.kinds {t : Ty} (h : Vd t) : t.kind = 0 ∧ t.l = [] ∨ 1 ≤ t.kind ∧ t.kind ≤ 21 ∧ ownB t = true := by
  rcases h with h | ⟨n, h⟩
  · obtain ⟨h1, h2, h3⟩ := noneT_spec h
    exact .inl ⟨h1, h2⟩
  · have h2 := deepB_own h
    refine .inr ⟨?_, ?_, h2⟩ <;> (unfold ownB at h2; (repeat' split at h2) <;> simp at h2 <;> omega)
/-- What is asked of a type, here and as Plain, that it may be measured. -/
structure Gd (t : Ty) : Prop where
  nm : t.names.length ≤ 64
  l : t.l.length ≤ 65
  fl : t.kind = 19 → t.names.length ≤ 32
  ki : t.kind = 0 ∧ t.l = [] ∨ 1 ≤ t.kind ∧ t.kind ≤ 21
  k16 : t.kind = 16 → t.l = []
  sum : partsGo 1 t.l ≤ 500
  el : ∀ x ∈ t.l, Vd x ∧ (x.kind ≠ 0 → partsN x ≤ 500)
theorem Vd.gd {t : Ty} (hv : Vd t) (hp : t.kind ≠ 0 → partsN t ≤ 500) : Gd t := by
  have h := hv.pl hp
  refine ⟨h.dim.nm, by have := h.dim.l; omega, h.dim.fl, ?_, fun k => ?_, h.sum, h.el⟩
  · rcases hv.kinds with e | e
    · exact .inl e
    · exact .inr ⟨e.1, e.2.1⟩
  · rcases hv.kinds with e | ⟨_, _, e⟩
    · exact e.2
    · simp [ownB, k] at e; exact List.length_eq_zero_iff.1 (by simpa using e.2.2)
theorem Vd.gdPlain {t : Ty} (z : Bool) (hv : Vd t) (hp : t.kind ≠ 0 → partsN t ≤ 500) : Gd (plainT z t) := by
  have h := hv.pl hp
  have hk := hv.kinds
  have hl : (plainT z t).l = (plainT false t).l := by unfold plainT; (repeat' split) <;> rfl
  have hkk := plainT_kind t z
  refine ⟨?_, (plainT_len h.dim).1, (plainT_len h.dim).2, ?_, fun k => absurd k hkk.2.1, by rw [hl]; exact h.sum2, fun x hx => ?_⟩
  · have h1 := h.dim.nm
    have h2 := h.dim.l
    unfold plainT
    split
    · show (digs t.l.length).length ≤ 64
      simp [digs]; omega
    split
    · exact h1
    split
    · exact show 2 ≤ 64 by decide
    split
    · exact show 2 ≤ 64 by decide
    · exact h1
  · have h1 : (1 : Int) ≤ 13 ∧ (13 : Int) ≤ 21 := by decide
    have h2 : (1 : Int) ≤ 15 ∧ (15 : Int) ≤ 21 := by decide
    unfold plainT
    split
    · exact .inr h1
    split
    · exact .inr h2
    split
    · exact .inr h2
    split
    · exact .inr h2
    · rcases hk with e | e
      · exact .inl e
      · exact .inr ⟨e.1, e.2.1⟩
  · rcases plainT_el hx with e | e
    · rw [e]; exact ⟨.inl rfl, fun h => absurd rfl h⟩
    · exact h.el x e
theorem bytesN_1 {n : Int} (h : n ≤ 256) : bytesN n = 1 := by rw [bytesN, if_pos h]
theorem max1 {a : Int} (h : P2 a) : max a 1 = a := by have := h.pos; omega
theorem layN_case {t : Ty} (hv : Gd t) (hp2 : P2 (varF 0 1 t.l).2) :
    (t.kind = 0 ∧ layN t = (0, 1)) ∨ ((t.kind = 11 ∨ t.kind = 12) ∧ layN t = (8, 4)) ∨ ((t.kind = 13 ∨ t.kind = 14) ∧ layN t = (upN (recF 0 1 t.l).1 (recF 0 1 t.l).2, (recF 0 1 t.l).2)) ∨
    ((t.kind = 15 ∨ t.kind = 17 ∨ t.kind = 18) ∧ layN t = (upN ((varF 0 1 t.l).1 + upN 1 (varF 0 1 t.l).2) (varF 0 1 t.l).2, (varF 0 1 t.l).2)) ∨
    ((1 ≤ t.kind ∧ t.kind ≤ 10 ∨ t.kind = 16 ∨ 19 ≤ t.kind) ∧ (layN t).1 = (layN t).2) := by
  have hl := hv.l
  have hn := hv.nm
  rcases hv.ki with ⟨h0, _⟩ | ⟨h1, h2⟩
  · exact .inl ⟨h0, layN_zero h0⟩
  have hvar : ∀ n : Int, n ≤ 256 → varEnd (bytesN n) (varF 0 1 t.l) = (upN ((varF 0 1 t.l).1 + upN 1 (varF 0 1 t.l).2) (varF 0 1 t.l).2, (varF 0 1 t.l).2) := fun n hn => by
    rw [bytesN_1 hn, varEnd, max1 hp2]
  by_cases k11 : t.kind = 11 ∨ t.kind = 12
  · refine .inr (.inl ⟨k11, ?_⟩)
    rw [layN_eq, layK]
    rcases k11 with k | k <;> rw [k] <;> rfl
  by_cases k13 : t.kind = 13 ∨ t.kind = 14
  · refine .inr (.inr (.inl ⟨k13, ?_⟩))
    rw [layN_eq, layK]
    rcases k13 with k | k <;> rw [k] <;> rfl
  by_cases k15 : t.kind = 15 ∨ t.kind = 17 ∨ t.kind = 18
  · refine .inr (.inr (.inr (.inl ⟨k15, ?_⟩)))
    rw [layN_eq, layK]
    rcases k15 with k | k | k <;> rw [k]
    · exact hvar _ (by omega)
    · exact hvar _ (by omega)
    · exact hvar _ (by omega)
  · refine .inr (.inr (.inr (.inr ⟨by omega, ?_⟩)))
    rw [layN_eq, layK, if_neg (by omega)]
    by_cases k16 : t.kind = 16
    · rw [k16]
      show (varEnd (bytesN t.names.length) (0, 1)).1 = (varEnd (bytesN t.names.length) (0, 1)).2
      rw [bytesN_1 (by omega)]; rfl
    · (repeat' split) <;> first | rfl | (exfalso; omega)
theorem alsN_max : ∀ (l : List Ty) (s a : Int), (∀ x ∈ l, alN x = (layN x).2) → (recF s a l).2 = alsN a l ∧ (varF s a l).2 = alsN a l
  | [], s, a, _ => ⟨rfl, rfl⟩
  | t :: ts, s, a, h => by
    rw [recF, varF, alsN, h t (by simp)]
    exact ⟨(alsN_max ts _ _ (fun x hx => h x (by simp [hx]))).1, (alsN_max ts _ _ (fun x hx => h x (by simp [hx]))).2⟩
theorem pw_mono {a b : Nat} (h : a ≤ b) : (2 : Int) ^ a ≤ 2 ^ b := by exact_mod_cast Nat.pow_le_pow_right (show 0 < 2 by decide) h
theorem by19 (n : Nat) : bytesN (2 ^ n) = if n ≤ 8 then 1 else if n ≤ 16 then 2 else 4 := by
  rw [bytesN]
  by_cases h8 : n ≤ 8
  · rw [if_pos h8, if_pos (Int.le_trans (pw_mono h8) (by decide))]
  · have h9 : (512 : Int) ≤ 2 ^ n := Int.le_trans (by decide) (pw_mono (show 9 ≤ n by omega))
    generalize hp : (2 : Int) ^ n = p at h9 ⊢
    rw [if_neg h8, if_neg (by omega)]
    by_cases h16 : n ≤ 16
    · have h17 : p ≤ 65536 := hp ▸ Int.le_trans (pw_mono h16) (by decide)
      rw [if_pos h16, if_pos h17]
    · have h17 : (131072 : Int) ≤ p := hp ▸ Int.le_trans (by decide) (pw_mono (show 17 ≤ n by omega))
      rw [if_neg h16, if_neg (by omega)]
theorem alN_law : ∀ (m : Nat) (t : Ty), SizeOf.sizeOf t ≤ m → Gd t → alN t = (layN t).2 ∧ alsN 1 t.l = (varF 0 1 t.l).2 ∧ alsN 1 t.l = (recF 0 1 t.l).2 ∧ P2 (alsN 1 t.l) := by
  intro m
  induction m with
  | zero => intro t hm; cases t; simp at hm
  | succ m ih =>
    intro t hm hv
    have h := hv
    have hels : ∀ x ∈ t.l, alN x = (layN x).2 := fun x hx => by
      have h1 := List.sizeOf_lt_of_mem hx
      have h2 : SizeOf.sizeOf t.l < SizeOf.sizeOf t := by cases t; simp [Ty.l]; omega
      exact (ih x (by omega) ((h.el x hx).1.gd (h.el x hx).2)).1
    have h1 := alsN_max t.l 0 1 hels
    have hsm : ∀ x ∈ t.l, Sm x := fun x hx => layN_sm x (h.el x hx).2
    have hv2 := varF_sm t.l 0 1 1 hsm (by omega) P2_1 (by omega) (by omega) h.sum
    refine ⟨?_, h1.2.symm, h1.1.symm, by rw [← h1.2]; exact hv2.1⟩
    have hfl := hv.fl
    have hk := hv.ki
    rw [alN_eq, alK]
    rcases layN_case hv hv2.1 with ⟨k, e⟩ | ⟨k, e⟩ | ⟨k, e⟩ | ⟨k, e⟩ | ⟨k, e⟩
    · rw [e, if_pos (by omega)]
    · rw [e, if_neg (by omega), if_neg (by omega), if_neg (by omega), if_pos (by omega)]
    · rw [e, if_neg (by omega), if_neg (by omega), if_neg (by omega), if_neg (by omega)]; exact h1.1.symm
    · rw [e, if_neg (by omega), if_neg (by omega), if_neg (by omega), if_neg (by omega)]; exact h1.2.symm
    · clear e hels h1 hsm hv2
      rw [layN_eq, layK]
      by_cases k19 : t.kind = 19
      · have hn := hfl k19
        rw [k19]
        show _ = (bytesN (2 ^ t.names.length) : Int)
        rw [by19]
        by_cases h8 : t.names.length ≤ 8
        · rw [if_pos (by simp [h8]), if_pos h8]
        · rw [if_neg (by simp [h8]), if_neg h8]
          by_cases h16 : t.names.length ≤ 16
          · rw [if_pos (by simp [h16]), if_pos h16]
          · rw [if_neg (by simp [h16]), if_neg (by omega), if_pos (by omega), if_neg h16]
      · by_cases k16 : t.kind = 16
        · rw [k16]
          show _ = (varEnd (bytesN t.names.length) (0, 1)).2
          have := hv.nm
          rw [bytesN_1 (by omega)]; simp [varEnd]
        · (repeat' split) <;> first | rfl | (exfalso; omega)
theorem inside_p (t : Ty) (hs : small t) (hv : Gd t) : E.Pure Tryd.prog 41 [encTy t] (.one (.t (tInt (upN 1 (varF 0 1 t.l).2)))) := by
  obtain ⟨-, hal, -, hP⟩ := alN_law _ t (Nat.le_refl _) hv
  have hb2 := small_l hs
  have hn := next_p 1 (alsN 1 t.l) (by omega) hP (by omega)
  rw [hal] at hn
  unfold big at hb2
  have hlen := encTys_length t.l
  refine Pure.of1 Tryd.func41 rfl rfl (Nat.le_of_ble_eq_true rfl) rfl ?_
  rw [encTy_eta]
  repeat' (first | refine Tri.seq ?_ | refine Tri.reg ?_ | refine TriL.nil ?_ | (apply U.assignT; rfl; trivial; rfl) | (apply U.boxA; rfl; rfl) | refine Tri.block ?_ | fail)
  refine Tri.loopS (α := Nat × Int) (fun a => ⟨[(4, .t (tInt a.1)), (3, .t (tInt a.2)), (1, .ptr 0 0)], Tryd.f41.ntmps, [(0, .obj [.t (.v (.int .i64 t.kind)), .t (.sl t.nn (t.names.map tStr)), .t (.sl t.nl (encTys t.l)), .t (.v (.int .i64 t.r))])], 0, 1⟩)
    (fun a => a.1 ≤ t.l.length ∧ alsN 1 t.l = alsN a.2 (t.l.drop a.1)) (fun a => t.l.length - a.1) (0, 1) ?_ ?_ ?_
  · exact ⟨Nat.zero_le _, rfl⟩
  · exact Sub.of rfl rfl ⟨rfl, rfl, rfl, trivial⟩ ⟨rfl, trivial⟩
  · rintro ⟨i, a⟩ ⟨hi, hd⟩
    dsimp only at hi hd ⊢
    repeat' (first | refine Tri.seq ?_ | refine Tri.reg ?_ | refine TriL.nil ?_ | (apply U.moveT; rfl; trivial; rfl) | (apply U.load; rfl; rfl; trivial; rfl; rfl; rfl) | (apply U.fld; rfl; trivial; rfl; infer_instance; decide; rfl) | (apply U.bin; rfl; trivial; rfl; trivial; rfl; rfl) | (apply U.len; rfl; trivial; rfl) | refine Tri.skip ?_ | refine Tri.block ?_ | refine Tri.exit ?_ | (refine Tri.cond rfl (fun h => ?_) (fun h => ?_) <;> (try simp at h) <;> (try contradiction)) | fail)
    · have hlt : i < t.l.length := by omega
      have hget := get_ty hlt
      have hal := aligned_p _ t.l[i] (Nat.le_refl _) (smalls_get (small_ls hs) (List.getElem?_eq_getElem hlt))
      rw [encTy_eta] at hal
      rw [List.drop_eq_getElem_cons hlt, alsN] at hd
      repeat' (first | refine Tri.reg ?_ | refine TriL.nil ?_ | (apply U.moveT; rfl; trivial; rfl) | (apply U.assignT; rfl; trivial; rfl) | (apply U.add; rfl; trivial; rfl; trivial; exact fun _ => wrap_i64 (by omega) (by omega); rfl) | (apply U.loadES; rfl; rfl; trivial; rfl; rfl; rfl) | (apply U.idx; rfl; trivial; rfl; trivial; exact fun _ => (by omega); exact fun _ => (by assumption); exact fun _ => rfl; rfl) | (apply U.max; rfl; trivial; rfl; trivial; rfl) | refine U.call1 rfl rfl (by assumption) rfl ?_ | fail)
      exact ⟨(i + 1, max a (alN t.l[i])), ⟨hlt, hd⟩, by dsimp only; omega, Sub.of rfl rfl ⟨rfl, rfl, rfl, trivial⟩ ⟨rfl, trivial⟩⟩
    · have : i = t.l.length := by omega
      subst this
      rw [List.drop_length, alsN, hal] at hd
      rw [hd] at hn
      repeat' (first | refine TriL.nil ?_ | (apply U.assignT; rfl; trivial; rfl) | refine U.call2 rfl rfl rfl (by assumption) rfl ?_ | refine Tri.ret ?_ | fail)
      refine Comes1.ret rfl ?_
      rw [hd]
theorem sized_p : ∀ (m : Nat) (t : Ty), SizeOf.sizeOf t ≤ m → small t → Gd t → E.Pure Tryd.prog 16 [encTy t] (.one (.t (tInt (layN t).1))) := by
  intro m
  induction m with
  | zero => intro t hm; cases t; simp at hm
  | succ m ih =>
    intro t hm hs hv
    have h := hv
    have hb2 := small_l hs
    unfold big at hb2
    have hlen := encTys_length t.l
    obtain ⟨hal, hal1, hal2, hP⟩ := alN_law _ t (Nat.le_refl _) hv
    have hc := layN_case hv (by rw [← hal1]; exact hP)
    have hk := hv.ki
    have ha := aligned_p _ t (Nat.le_refl _) hs
    rw [hal, encTy_eta] at ha
    have hin := inside_p t hs hv
    rw [encTy_eta] at hin
    have hpp := h.sum
    have hels : ∀ (i : Nat) (hi : i < t.l.length), Sm t.l[i] ∧ E.Pure Tryd.prog 18 [agTy t.l[i]] (.one (.t (tInt (layN t.l[i]).2))) ∧ E.Pure Tryd.prog 16 [agTy t.l[i]] (.one (.t (tInt (layN t.l[i]).1))) := fun i hi => by
      have hmem := List.getElem_mem hi
      have hsz := size_get hi t rfl
      have hsi := smalls_get (small_ls hs) (List.getElem?_eq_getElem hi)
      have h1 := aligned_p _ t.l[i] (Nat.le_refl _) hsi
      rw [(alN_law _ _ (Nat.le_refl _) ((h.el _ hmem).1.gd (h.el _ hmem).2)).1, encTy_eta] at h1
      have h2 := ih t.l[i] (by omega) hsi ((h.el _ hmem).1.gd (h.el _ hmem).2)
      rw [encTy_eta] at h2
      exact ⟨layN_sm _ (h.el _ hmem).2, h1, h2⟩
    have hgp := partsGo_le 1 t.l
    clear h ih
    refine Pure.of1 Tryd.func16 rfl rfl (Nat.le_of_ble_eq_true rfl) rfl ?_
    rw [encTy_eta]
    repeat' (first | refine Tri.seq ?_ | refine Tri.reg ?_ | refine TriL.nil ?_ | (apply U.moveT; rfl; trivial; rfl) | (apply U.assignT; rfl; trivial; rfl) | (apply U.load; rfl; rfl; trivial; rfl; rfl; rfl) | (apply U.fld; rfl; trivial; rfl; infer_instance; decide; rfl) | (apply U.bin; rfl; trivial; rfl; trivial; rfl; rfl) | (apply U.loadS; rfl; rfl; trivial; rfl; rfl; rfl; rfl; rfl) | (apply U.pickb; rfl; trivial; rfl; (first | trivial | exact id | exact And.right | exact gvA | exact gvB | exact And.left | exact gvN | exact gvP2 | exact gvN2 | exact gvLA); rfl; (first | trivial | exact id | exact And.right | exact gvA | exact gvB | exact And.left | exact gvN | exact gvP2 | exact gvN2 | exact gvLA); rfl) | (apply U.boxA; rfl; rfl) | (apply G.moveT; rfl; (first | trivial | exact id | exact And.right | exact gvA | exact gvB | exact And.left | exact gvN | exact gvP2 | exact gvN2 | exact gvLA); rfl; rfl; rfl) | (apply G.bin; rfl; (first | trivial | exact id | exact And.right | exact gvA | exact gvB | exact And.left | exact gvN | exact gvP2 | exact gvN2 | exact gvLA); rfl; (first | trivial | exact id | exact And.right | exact gvA | exact gvB | exact And.left | exact gvN | exact gvP2 | exact gvN2 | exact gvLA); rfl; rfl; rfl; rfl) | refine U.call1 rfl rfl (by assumption) rfl ?_ | refine Tri.skip ?_ | refine Tri.block ?_ | refine Tri.ret ?_ | (refine Tri.cond rfl (fun h => ?_) (fun h => ?_) <;> (try simp at h) <;> (try contradiction)) | fail)
    · refine Comes1.ret rfl ?_
      rw [layN_zero (by assumption)]; rfl
    · refine Comes1.ret rfl ?_
      rcases hc with ⟨k, e⟩ | ⟨k, e⟩ | ⟨k, e⟩ | ⟨k, e⟩ | ⟨k, e⟩ <;> first | (rw [e]; done) | (rw [e]; rfl) | (exfalso; omega)
    · refine Comes1.ret rfl ?_
      rcases hc with ⟨k, e⟩ | ⟨k, e⟩ | ⟨k, e⟩ | ⟨k, e⟩ | ⟨k, e⟩ <;> first | (rw [e]; done) | (rw [e]; rfl) | (exfalso; omega)
    · -- a record
      have hsz : layN t = (upN (recF 0 1 t.l).1 (recF 0 1 t.l).2, (recF 0 1 t.l).2) := by
        rcases hc with ⟨k, e⟩ | ⟨k, e⟩ | ⟨k, e⟩ | ⟨k, e⟩ | ⟨k, e⟩ <;> first | exact e | (exfalso; omega)
      refine Tri.loopS (α := Nat × Int × Int × Int) (fun a => ⟨[(5, .t (tInt a.1)), (4, .t (tInt a.2.1)), (1, .ptr 0 0)], Tryd.f16.ntmps, [(0, .obj [.t (.v (.int .i64 t.kind)), .t (.sl t.nn (t.names.map tStr)), .t (.sl t.nl (encTys t.l)), .t (.v (.int .i64 t.r))])], 0, 1⟩)
        (fun a => a.1 ≤ t.l.length ∧ recF 0 1 t.l = recF a.2.1 a.2.2.1 (t.l.drop a.1) ∧ partsGo 1 t.l = partsGo a.2.2.2 (t.l.drop a.1) ∧ P2 a.2.2.1 ∧ 0 ≤ a.2.1 ∧ a.2.1 ≤ 16 * (a.2.2.2 - 1) ∧ 1 ≤ a.2.2.2) (fun a => t.l.length - a.1) (0, 0, 1, 1) ?_ ?_ ?_
      · exact ⟨Nat.zero_le _, rfl, rfl, P2_1, by simp, by simp, by simp⟩
      · exact Sub.of rfl rfl ⟨rfl, rfl, rfl, trivial⟩ ⟨rfl, trivial⟩
      · rintro ⟨i, s, a, n⟩ ⟨hi, hr, hg, haP, hs0, hs1, hn⟩
        dsimp only at hi hr hg haP hs0 hs1 hn ⊢
        repeat' (first | refine Tri.seq ?_ | refine Tri.reg ?_ | refine TriL.nil ?_ | (apply U.moveT; rfl; trivial; rfl) | (apply U.load; rfl; rfl; trivial; rfl; rfl; rfl) | (apply U.fld; rfl; trivial; rfl; infer_instance; decide; rfl) | (apply U.bin; rfl; trivial; rfl; trivial; rfl; rfl) | (apply U.len; rfl; trivial; rfl) | (apply U.loadS; rfl; rfl; trivial; rfl; rfl; rfl; rfl; rfl) | refine U.call1 rfl rfl (by assumption) rfl ?_ | refine Tri.skip ?_ | refine Tri.block ?_ | refine Tri.exit ?_ | (refine Tri.cond rfl (fun h => ?_) (fun h => ?_) <;> (try simp at h) <;> (try contradiction)) | fail)
        · have hlt : i < t.l.length := by omega
          have hget := get_ty hlt
          obtain ⟨hsm, hea, hes⟩ := hels i hlt
          have hd := List.drop_eq_getElem_cons hlt
          rw [hd] at hr hg
          rw [recF] at hr
          have hp2 := partsGo_pw (n := n) (t := t.l[i]) (ts := t.l.drop (i + 1)) (by rw [← hg]; exact hpp)
          rw [partsGo_cons (by omega)] at hg
          have hA := hsm.al.pos
          have q1 := hsm.s0
          have q2 := hsm.s1
          have q3 := pw_nonneg t.l[i]
          have q4 := upN_bd hs0 hsm.al
          have hup := next_p s (layN t.l[i]).2 hs0 hsm.al (by omega)
          refine Tri.regD [] mixed (by kernel_rfl) ?_
          repeat' (first | refine Tri.reg ?_ | refine TriL.nil ?_ | exact ⟨rfl, rfl, rfl⟩ | (apply D.v; rfl; rfl; rfl) | refine D.nil ?_ | (apply U.moveT; rfl; trivial; rfl) | (apply U.assignT; rfl; trivial; rfl) | (apply U.load; rfl; rfl; trivial; rfl; rfl; rfl) | (apply U.fld; rfl; trivial; rfl; infer_instance; decide; rfl) | (apply U.add; rfl; trivial; rfl; trivial; exact fun _ => wrap_i64 (by omega) (by omega); rfl) | (apply U.loadES; rfl; rfl; trivial; rfl; rfl; rfl) | (apply U.idx; rfl; trivial; rfl; trivial; exact fun _ => (by omega); exact fun _ => (by assumption); exact fun _ => rfl; rfl) | refine U.call1 rfl rfl (by assumption) rfl ?_ | refine U.call2 rfl rfl rfl (by assumption) rfl ?_ | fail)
          refine ⟨(i + 1, upN s (layN t.l[i]).2 + (layN t.l[i]).1, max a (layN t.l[i]).2, n + pw t.l[i]), ⟨hlt, hr, hg, haP.max hsm.al, by dsimp only; omega, ?_, by dsimp only; omega⟩, by dsimp only; omega, Sub.of rfl rfl ⟨rfl, rfl, rfl, trivial⟩ ⟨rfl, trivial⟩⟩
          dsimp only
          by_cases e : pw t.l[i] = 0
          · have : upN s (layN t.l[i]).2 = s := by
              have hk : t.l[i].kind = 0 := by
                unfold pw at e; split at e
                · assumption
                · have := partsN_le t.l[i]; omega
              rw [layN_zero hk]; simp [upN]
            omega
          · omega
        · have hz : i = t.l.length := by omega
          subst hz
          have hpg := partsGo_le n (t.l.drop t.l.length)
          rw [List.drop_length] at hr hg hpg
          rw [recF] at hr
          rw [hr] at hsz
          have hn5 : n ≤ 500 := by omega
          have hA := haP.pos
          have hup := next_p s a hs0 haP (by omega)
          rw [hsz] at ha ⊢
          repeat' (first | refine TriL.nil ?_ | (apply U.assignT; rfl; trivial; rfl) | refine U.call2 rfl rfl rfl (by assumption) rfl ?_ | refine Tri.ret ?_ | fail)
          exact Comes1.ret rfl rfl
    · -- a variant
      have hsz : layN t = (upN ((varF 0 1 t.l).1 + upN 1 (varF 0 1 t.l).2) (varF 0 1 t.l).2, (varF 0 1 t.l).2) := by
        rcases hc with ⟨k, e⟩ | ⟨k, e⟩ | ⟨k, e⟩ | ⟨k, e⟩ | ⟨k, e⟩ <;> first | exact e | (exfalso; omega)
      refine Tri.loopS (α := Nat × Int × Int × Int) (fun a => ⟨[(7, .t (tInt a.1)), (6, .t (tInt a.2.1)), (1, .ptr 0 0)], Tryd.f16.ntmps, [(0, .obj [.t (.v (.int .i64 t.kind)), .t (.sl t.nn (t.names.map tStr)), .t (.sl t.nl (encTys t.l)), .t (.v (.int .i64 t.r))])], 0, 1⟩)
        (fun a => a.1 ≤ t.l.length ∧ varF 0 1 t.l = varF a.2.1 a.2.2.1 (t.l.drop a.1) ∧ partsGo 1 t.l = partsGo a.2.2.2 (t.l.drop a.1) ∧ P2 a.2.2.1 ∧ 0 ≤ a.2.1 ∧ a.2.1 ≤ max 0 (16 * (a.2.2.2 - 1) - 8) ∧ 1 ≤ a.2.2.2) (fun a => t.l.length - a.1) (0, 0, 1, 1) ?_ ?_ ?_
      · exact ⟨Nat.zero_le _, rfl, rfl, P2_1, by simp, by dsimp only; omega, by simp⟩
      · exact Sub.of rfl rfl ⟨rfl, rfl, rfl, trivial⟩ ⟨rfl, trivial⟩
      · rintro ⟨i, s, a, n⟩ ⟨hi, hr, hg, haP, hs0, hs1, hn⟩
        dsimp only at hi hr hg haP hs0 hs1 hn ⊢
        repeat' (first | refine Tri.seq ?_ | refine Tri.reg ?_ | refine TriL.nil ?_ | (apply U.moveT; rfl; trivial; rfl) | (apply U.load; rfl; rfl; trivial; rfl; rfl; rfl) | (apply U.fld; rfl; trivial; rfl; infer_instance; decide; rfl) | (apply U.bin; rfl; trivial; rfl; trivial; rfl; rfl) | (apply U.len; rfl; trivial; rfl) | refine Tri.skip ?_ | refine Tri.block ?_ | refine Tri.exit ?_ | (refine Tri.cond rfl (fun h => ?_) (fun h => ?_) <;> (try simp at h) <;> (try contradiction)) | fail)
        · have hlt : i < t.l.length := by omega
          have hget := get_ty hlt
          obtain ⟨hsm, -, hes⟩ := hels i hlt
          have hd := List.drop_eq_getElem_cons hlt
          rw [hd] at hr hg
          rw [varF] at hr
          have hp2 := partsGo_pw (n := n) (t := t.l[i]) (ts := t.l.drop (i + 1)) (by rw [← hg]; exact hpp)
          rw [partsGo_cons (by omega)] at hg
          have hA := hsm.al.pos
          have q1 := hsm.s0
          have q2 := hsm.s1
          have q3 := pw_nonneg t.l[i]
          repeat' (first | refine Tri.reg ?_ | refine TriL.nil ?_ | (apply U.moveT; rfl; trivial; rfl) | (apply U.assignT; rfl; trivial; rfl) | (apply U.add; rfl; trivial; rfl; trivial; exact fun _ => wrap_i64 (by omega) (by omega); rfl) | (apply U.loadES; rfl; rfl; trivial; rfl; rfl; rfl) | (apply U.idx; rfl; trivial; rfl; trivial; exact fun _ => (by omega); exact fun _ => (by assumption); exact fun _ => rfl; rfl) | (apply U.max; rfl; trivial; rfl; trivial; rfl) | refine U.call1 rfl rfl (by assumption) rfl ?_ | fail)
          refine ⟨(i + 1, max s (layN t.l[i]).1, max a (layN t.l[i]).2, n + pw t.l[i]), ⟨hlt, hr, hg, haP.max hsm.al, by dsimp only; omega, by dsimp only; omega, by dsimp only; omega⟩, by dsimp only; omega, Sub.of rfl rfl ⟨rfl, rfl, rfl, trivial⟩ ⟨rfl, trivial⟩⟩
        · have hz : i = t.l.length := by omega
          subst hz
          have hpg := partsGo_le n (t.l.drop t.l.length)
          rw [List.drop_length] at hr hg hpg
          rw [varF] at hr
          rw [hr] at hsz hin
          dsimp only at hsz hin
          have hn5 : n ≤ 500 := by omega
          have hA := haP.pos
          have hu1 := upN_bd (n := 1) (by omega) haP
          have hup := next_p (s + upN 1 a) a (by omega) haP (by omega)
          rw [Int.add_comm] at hup
          rw [hsz] at ha ⊢
          dsimp only at ha ⊢
          rw [Int.add_comm s]
          refine Tri.regD [] mixed (by kernel_rfl) ?_
          repeat' (first | refine TriL.nil ?_ | exact ⟨rfl, rfl, rfl⟩ | (apply D.v; rfl; rfl; rfl) | refine D.nil ?_ | (apply U.moveT; rfl; trivial; rfl) | (apply U.assignT; rfl; trivial; rfl) | (apply U.add; rfl; trivial; rfl; trivial; exact fun _ => wrap_i64 (by omega) (by omega); rfl) | (apply U.loadS; rfl; rfl; trivial; rfl; rfl; rfl; rfl; rfl) | refine U.call1 rfl rfl (by assumption) rfl ?_ | refine U.call2 rfl rfl rfl (by assumption) rfl ?_ | refine Tri.ret ?_ | fail)
          exact Comes1.ret rfl rfl
end Go.Proofs.YtaplmmhkpljmkaaDoor
