/- Layer 13, the code: lay. -/
import Derived.Test.YtaplmmhkpljmkaaDoorC14
namespace Go.Proofs.YtaplmmhkpljmkaaDoor
open Go E
set_option maxRecDepth 100000
set_option maxHeartbeats 4000000
set_option linter.unusedVariables false
set_option linter.unusedSimpArgs false
attribute [local irreducible] Tri TriL TriO PO VO E.Pure DOb
def cplx (p : Int × Int) : T := .v (.complex .f64 (fl p.1) (fl p.2))
theorem both_p (n : Int) : E.Pure Tryd.prog 53 [tInt n] (.one (.t (cplx (n, n)))) := by
  refine Pure.of1 Tryd.func53 rfl rfl (Nat.le_of_ble_eq_true rfl) rfl ?_
  repeat' (first | refine Tri.seq ?_ | refine Tri.reg ?_ | refine TriL.nil ?_ | (apply U.moveT; rfl; trivial; rfl) | (apply U.assignT; rfl; trivial; rfl) | (apply U.cplx; rfl; trivial; rfl; trivial; rfl) | (apply U.i2f; rfl; trivial; rfl) | refine Tri.ret ?_ | fail)
  exact Comes1.ret rfl rfl
theorem layK_0 {k : Int} {nn nl : Nat} {rc vr : Int × Int} (h : k = 0) : layK k nn nl rc vr = (0, 1) := by rw [layK, if_pos h]
theorem wrapI {n : Int} (h0 : -9223372036854775808 ≤ n) (h1 : n ≤ 9223372036854775807) : IntKind.i64.wrap n = n := wrap_i64 h0 h1
theorem lay_core (t x : Ty) (hpl : E.Pure Tryd.prog 10 [encTy t] (.one (.t (encTy x)))) (h14 : x.kind ≠ 14 ∧ x.kind ≠ 16 ∧ x.kind ≠ 17 ∧ x.kind ≠ 18) (hnm : x.kind = 19 → x.names.length ≤ 32) (hl : x.l.length ≤ 65)
    (hel : ∀ (i : Nat) (h : i < x.l.length), E.Pure Tryd.prog 42 [agTy x.l[i]] (.one (.t (cplx (layN x.l[i]))))) (hsm : ∀ y ∈ x.l, Sm y) (hsum : x.kind ≠ 0 → partsGo 1 x.l ≤ 500) :
    E.Pure Tryd.prog 42 [encTy t] (.one (.t (cplx (layK x.kind x.names.length x.l.length (recF 0 1 x.l) (varF 0 1 x.l))))) := by
  have hlen := encTys_length x.l
  have hlen2 : (x.names.map tStr).length = x.names.length := by simp
  have b1 := both_p 1
  have b2 := both_p 2
  have b8 := both_p 8
  have b4 := both_p 4
  have hby := bytes_p x.l.length
  refine Pure.of1 Tryd.func42 rfl rfl (Nat.le_of_ble_eq_true rfl) rfl ?_
  rw [encTy_eta x] at hpl
  rw [encTy_eta t] at hpl ⊢
  repeat' (first | refine Tri.seq ?_ | refine Tri.reg ?_ | refine TriL.nil ?_ | (apply U.moveT; rfl; trivial; rfl) | (apply U.assignT; rfl; trivial; rfl) | (apply U.load; rfl; rfl; trivial; rfl; rfl; rfl) | (apply U.fld; rfl; trivial; rfl; infer_instance; decide; rfl) | (apply U.bin; rfl; trivial; rfl; trivial; rfl; rfl) | (apply U.len; rfl; trivial; rfl) | (apply U.loadS; rfl; rfl; trivial; rfl; rfl; rfl; rfl; rfl) | (apply U.boxA; rfl; rfl) | (apply U.storeS; rfl; rfl; rfl; rfl; rfl; rfl; rfl; rfl) | (apply U.shl; rfl; trivial; rfl; trivial; exact fun _ => (by first | omega | (simp at *; omega)); rfl) | refine U.call1 rfl rfl (by assumption) rfl ?_ | refine Tri.skip ?_ | refine Tri.block ?_ | refine Tri.ret ?_ | (refine Tri.cond rfl (fun h => ?_) (fun h => ?_) <;> (try simp at h) <;> (try contradiction)) | fail)
  · refine Comes1.ret rfl ?_
    rw [layK_0 (by assumption)]; simp only [cplx, fl_0, fl_1]
  · refine Comes1.ret rfl ?_
    rw [show x.kind = 1 by assumption]; rfl
  · refine Comes1.ret rfl ?_
    rw [show x.kind = 2 by assumption]; rfl
  · refine Comes1.ret rfl ?_
    rw [show x.kind = 3 by assumption]; rfl
  · refine Comes1.ret rfl ?_
    rw [show x.kind = 4 by assumption]; rfl
  · refine Comes1.ret rfl ?_
    rw [show x.kind = 5 by assumption]; rfl
  · refine Comes1.ret rfl ?_
    rw [show x.kind = 8 by assumption]; rfl
  · refine Comes1.ret rfl ?_
    rw [show x.kind = 9 by assumption]; rfl
  · refine Comes1.ret rfl ?_
    rw [show x.kind = 11 by assumption]; show _ = R1.t (cplx (8, 4)); simp only [cplx, fl_8, fl_4]
  · refine Comes1.ret rfl ?_
    rw [show x.kind = 12 by assumption]; show _ = R1.t (cplx (8, 4)); simp only [cplx, fl_8, fl_4]
  · -- flags
    refine U.call1 rfl rfl (bytes_p _) rfl ?_
    skip
    refine U.call1 rfl rfl (both_p _) rfl ?_
    repeat' (first | refine TriL.nil ?_ | (apply U.assignT; rfl; trivial; rfl) | refine Tri.ret ?_ | fail)
    refine Comes1.ret rfl ?_
    have hn := hnm (by assumption)
    have e : IntKind.i64.wrap (1 * 2 ^ Nat.min ((((x.names.map tStr).length : Nat) : Int)).toNat IntKind.i64.bits) = 2 ^ x.names.length := by
      rw [Int.toNat_natCast, hlen2, Int.one_mul, show Nat.min x.names.length IntKind.i64.bits = x.names.length from Nat.min_eq_left (by show _ ≤ 64; omega)]
      have h1 : (2 : Int) ^ x.names.length ≤ 2 ^ 32 := by exact_mod_cast Nat.pow_le_pow_right (show 0 < 2 by decide) hn
      have h2 : (0 : Int) < 2 ^ x.names.length := Int.pow_pos (by decide)
      exact wrap_i64 (by omega) (by have : (2 : Int) ^ 32 = 4294967296 := by decide
                                    omega)
    rw [e, show x.kind = 19 by assumption]; rfl
  · -- a record
    have hp := hsum (by assumption)
    refine Tri.loopS (α := Nat × Int × Int × Int) (fun a => ⟨[(54, .t (tInt a.1)), (53, .t (tInt x.l.length)), (52, .t (.sl x.nl (encTys x.l))), (5, .t (tInt a.2.2.1)), (4, .t (tInt a.2.1))], Tryd.f42.ntmps, [], 0, 1⟩)
      (fun a => a.1 ≤ x.l.length ∧ recF 0 1 x.l = recF a.2.1 a.2.2.1 (x.l.drop a.1) ∧ partsGo 1 x.l = partsGo a.2.2.2 (x.l.drop a.1) ∧ P2 a.2.2.1 ∧ 0 ≤ a.2.1 ∧ a.2.1 ≤ 16 * (a.2.2.2 - 1) ∧ 1 ≤ a.2.2.2) (fun a => x.l.length - a.1) (0, 0, 1, 1) ?_ ?_ ?_
    · exact ⟨Nat.zero_le _, rfl, rfl, P2_1, by simp, by simp, by simp⟩
    · refine Sub.of rfl rfl ⟨rfl, ?_, rfl, rfl, rfl, trivial⟩ trivial
      rw [← hlen]; rfl
    · rintro ⟨i, s, a, n⟩ ⟨hi, hr, hg, ha, hs0, hs1, hn⟩
      dsimp only at hi hr hg ha hs0 hs1 hn ⊢
      repeat' (first | refine Tri.seq ?_ | refine Tri.reg ?_ | refine TriL.nil ?_ | (apply U.moveT; rfl; trivial; rfl) | (apply U.bin; rfl; trivial; rfl; trivial; rfl; rfl) | refine Tri.skip ?_ | refine Tri.block ?_ | refine Tri.exit ?_ | (refine Tri.cond rfl (fun h => ?_) (fun h => ?_) <;> (try simp at h) <;> (try contradiction)) | fail)
      · have hlt : i < x.l.length := by omega
        have hget := get_ty hlt
        have hel := hel i hlt
        have hs := hsm x.l[i] (List.getElem_mem hlt)
        have hd := List.drop_eq_getElem_cons hlt
        rw [hd] at hr hg
        rw [recF] at hr
        have hp2 := partsGo_pw (n := n) (t := x.l[i]) (ts := x.l.drop (i + 1)) (by rw [← hg]; exact hp)
        rw [partsGo_cons (by omega)] at hg
        have hA := hs.al.pos
        have q1 := hs.s0
        have q2 := hs.s1
        have q3 := pw_nonneg x.l[i]
        have q4 := upN_bd hs0 hs.al
        have hfA : floatToIntVal .f64 (fl (layN x.l[i]).2) .i64 = some (layN x.l[i]).2 := f2i (by omega) (by omega)
        have hfS : floatToIntVal .f64 (fl (layN x.l[i]).1) .i64 = some (layN x.l[i]).1 := f2i (by omega) (by omega)
        have hup := up_p s (layN x.l[i]).2 hs0 (by omega) (by omega) (by omega)
        repeat' (first | refine Tri.seq ?_ | refine Tri.reg ?_ | refine TriL.nil ?_ | (apply U.moveT; rfl; trivial; rfl) | (apply U.assignT; rfl; trivial; rfl) | (apply U.add; rfl; trivial; rfl; trivial; exact fun _ => wrap_i64 (by omega) (by omega); rfl) | (apply U.loadES; rfl; rfl; trivial; rfl; rfl; rfl) | (apply U.loadS; rfl; rfl; trivial; rfl; rfl; rfl; rfl; rfl) | (apply U.idx; rfl; trivial; rfl; trivial; exact fun _ => (by omega); exact fun _ => (by assumption); exact fun _ => rfl; rfl) | (apply U.alloc; rfl; rfl; rfl; rfl) | (apply U.storeS; rfl; rfl; rfl; rfl; rfl; rfl; rfl; rfl) | (apply U.max; rfl; trivial; rfl; trivial; rfl) | (apply U.imag; rfl; trivial; rfl) | (apply U.real; rfl; trivial; rfl) | (apply U.f2i; rfl; trivial; exact fun _ => (by assumption); rfl) | refine U.call1 rfl rfl (by assumption) rfl ?_ | refine U.call2 rfl rfl rfl (by assumption) rfl ?_ | fail)
        refine ⟨(i + 1, upN s (layN x.l[i]).2 + (layN x.l[i]).1, max a (layN x.l[i]).2, n + pw x.l[i]), ⟨hlt, hr, hg, ha.max hs.al, by dsimp only; omega, ?_, by dsimp only; omega⟩, by dsimp only; omega, Sub.ofn (by decide) rfl ⟨rfl, rfl, rfl, rfl, rfl, trivial⟩ trivial rfl rfl⟩
        dsimp only
        by_cases e : pw x.l[i] = 0
        · have : upN s (layN x.l[i]).2 = s := by
            have hk : x.l[i].kind = 0 := by
              unfold pw at e; split at e
              · assumption
              · have := partsN_le x.l[i]; omega
            rw [layN_zero hk]; simp [upN]
          omega
        · omega
      · have hz : i = x.l.length := by omega
        subst hz
        have hpg := partsGo_le n (x.l.drop x.l.length)
        rw [List.drop_length] at hr hg hpg
        rw [recF] at hr
        have hn5 : n ≤ 500 := by omega
        have hA := ha.pos
        have hup := up_p s a hs0 (by omega) (by omega) (by omega)
        repeat' (first | refine TriL.nil ?_ | (apply U.moveT; rfl; trivial; rfl) | (apply U.assignT; rfl; trivial; rfl) | (apply U.cplx; rfl; trivial; rfl; trivial; rfl) | (apply U.i2f; rfl; trivial; rfl) | refine U.call2 rfl rfl rfl (by assumption) rfl ?_ | refine Tri.ret ?_ | fail)
        refine Comes1.ret rfl ?_
        rw [hr, show x.kind = 13 by assumption]; rfl
  · -- a variant
    have hp := hsum (by omega)
    refine U.call1 rfl rfl (bytes_p _) rfl ?_
    repeat' (first | refine Tri.seq ?_ | refine Tri.reg ?_ | refine TriL.nil ?_ | (apply U.moveT; rfl; trivial; rfl) | (apply U.assignT; rfl; trivial; rfl) | (apply U.load; rfl; rfl; trivial; rfl; rfl; rfl) | (apply U.fld; rfl; trivial; rfl; infer_instance; decide; rfl) | (apply U.len; rfl; trivial; rfl) | refine Tri.block ?_ | fail)
    refine Tri.loopS (α := Nat × Int × Int × Int) (fun a => ⟨[(91, .t (tInt a.1)), (90, .t (tInt x.l.length)), (89, .t (.sl x.nl (encTys x.l))), (11, .t (tInt a.2.2.1)), (10, .t (tInt a.2.1)), (9, .t (tInt (bytesN x.l.length)))], Tryd.f42.ntmps, [], 0, 1⟩)
      (fun a => a.1 ≤ x.l.length ∧ varF 0 1 x.l = varF a.2.1 a.2.2.1 (x.l.drop a.1) ∧ partsGo 1 x.l = partsGo a.2.2.2 (x.l.drop a.1) ∧ P2 a.2.2.1 ∧ 0 ≤ a.2.1 ∧ a.2.1 ≤ max 0 (16 * (a.2.2.2 - 1) - 8) ∧ 1 ≤ a.2.2.2) (fun a => x.l.length - a.1) (0, 0, 1, 1) ?_ ?_ ?_
    · exact ⟨Nat.zero_le _, rfl, rfl, P2_1, by simp, by dsimp only; omega, by simp⟩
    · refine Sub.of rfl rfl ⟨rfl, ?_, rfl, rfl, rfl, ?_, trivial⟩ trivial
      · rw [← hlen]; rfl
      · rw [← hlen]; rfl
    · rintro ⟨i, s, a, n⟩ ⟨hi, hr, hg, ha, hs0, hs1, hn⟩
      dsimp only at hi hr hg ha hs0 hs1 hn ⊢
      repeat' (first | refine Tri.seq ?_ | refine Tri.reg ?_ | refine TriL.nil ?_ | (apply U.moveT; rfl; trivial; rfl) | (apply U.bin; rfl; trivial; rfl; trivial; rfl; rfl) | refine Tri.skip ?_ | refine Tri.block ?_ | refine Tri.exit ?_ | (refine Tri.cond rfl (fun h => ?_) (fun h => ?_) <;> (try simp at h) <;> (try contradiction)) | fail)
      · have hlt : i < x.l.length := by omega
        have hget := get_ty hlt
        have hel := hel i hlt
        have hs := hsm x.l[i] (List.getElem_mem hlt)
        have hd := List.drop_eq_getElem_cons hlt
        rw [hd] at hr hg
        rw [varF] at hr
        have hp2 := partsGo_pw (n := n) (t := x.l[i]) (ts := x.l.drop (i + 1)) (by rw [← hg]; exact hp)
        rw [partsGo_cons (by omega)] at hg
        have hA := hs.al.pos
        have q1 := hs.s0
        have q2 := hs.s1
        have q3 := pw_nonneg x.l[i]
        have hfA : floatToIntVal .f64 (fl (layN x.l[i]).2) .i64 = some (layN x.l[i]).2 := f2i (by omega) (by omega)
        have hfS : floatToIntVal .f64 (fl (layN x.l[i]).1) .i64 = some (layN x.l[i]).1 := f2i (by omega) (by omega)
        repeat' (first | refine Tri.seq ?_ | refine Tri.reg ?_ | refine TriL.nil ?_ | (apply U.moveT; rfl; trivial; rfl) | (apply U.assignT; rfl; trivial; rfl) | (apply U.add; rfl; trivial; rfl; trivial; exact fun _ => wrap_i64 (by omega) (by omega); rfl) | (apply U.loadES; rfl; rfl; trivial; rfl; rfl; rfl) | (apply U.loadS; rfl; rfl; trivial; rfl; rfl; rfl; rfl; rfl) | (apply U.idx; rfl; trivial; rfl; trivial; exact fun _ => (by omega); exact fun _ => (by assumption); exact fun _ => rfl; rfl) | (apply U.alloc; rfl; rfl; rfl; rfl) | (apply U.storeS; rfl; rfl; rfl; rfl; rfl; rfl; rfl; rfl) | (apply U.max; rfl; trivial; rfl; trivial; rfl) | (apply U.imag; rfl; trivial; rfl) | (apply U.real; rfl; trivial; rfl) | (apply U.f2i; rfl; trivial; exact fun _ => (by assumption); rfl) | refine U.call1 rfl rfl (by assumption) rfl ?_ | fail)
        exact ⟨(i + 1, max s (layN x.l[i]).1, max a (layN x.l[i]).2, n + pw x.l[i]), ⟨hlt, hr, hg, ha.max hs.al, by dsimp only; omega, by dsimp only; omega, by dsimp only; omega⟩, by dsimp only; omega, Sub.ofn (by decide) rfl ⟨rfl, rfl, rfl, rfl, rfl, rfl, trivial⟩ trivial rfl rfl⟩
      · have hz : i = x.l.length := by omega
        subst hz
        have hpg := partsGo_le n (x.l.drop x.l.length)
        rw [List.drop_length] at hr hg hpg
        rw [varF] at hr
        have hn5 : n ≤ 500 := by omega
        have hA := ha.pos
        have hb := bytesN_P x.l.length
        have hbp := hb.1.pos
        have hu1 := upN_bd (n := bytesN x.l.length) (by omega) ha
        have hup := up_p (bytesN x.l.length) a (by omega) (by omega) (by omega) (by omega)
        have hmx := (ha.max hb.1).pos
        have hup2 := up_p (s + upN (bytesN x.l.length) a) (max a (bytesN x.l.length)) (by omega) (by omega) (by omega) (by omega)
        repeat' (first | refine Tri.seq ?_ | refine Tri.reg ?_ | refine TriL.nil ?_ | (apply U.moveT; rfl; trivial; rfl) | (apply U.assignT; rfl; trivial; rfl) | (apply U.add; rfl; trivial; rfl; trivial; exact fun _ => wrap_i64 (by omega) (by omega); rfl) | (apply U.max; rfl; trivial; rfl; trivial; rfl) | (apply U.cplx; rfl; trivial; rfl; trivial; rfl) | (apply U.i2f; rfl; trivial; rfl) | refine U.call2 rfl rfl rfl (by assumption) rfl ?_ | refine Tri.ret ?_ | fail)
        refine Comes1.ret rfl ?_
        rw [hr, show x.kind = 15 by assumption]; rfl
  · refine Comes1.ret rfl ?_
    rw [layK, if_neg (by omega), if_neg (by omega), if_neg (by omega), if_neg (by omega), if_neg (by omega), if_neg (by omega), if_neg (by omega), if_neg (by omega), if_neg (by omega), if_neg (by omega)]
/-- May a type be somewhere? -/
def Vd (t : Ty) : Prop := noneT t = true ∨ ∃ n, deepB t n = true
structure Dim (t : Ty) : Prop where
  nm : t.names.length ≤ 64
  l : t.l.length ≤ 64
  fl : t.kind = 19 → t.names.length ≤ 32
theorem own_dim {t : Ty} (h : ownB t = true) : Dim t := by
  unfold ownB at h
  refine ⟨?_, ?_, fun hk => ?_⟩
  · (repeat' split at h) <;> simp [namesB_iff, -List.length_eq_zero_iff] at h <;> omega
  · (repeat' split at h) <;> simp [namesB_iff, -List.length_eq_zero_iff] at h <;> omega
  · rw [hk] at h
    (repeat' split at h) <;> simp [namesB_iff, -List.length_eq_zero_iff] at h <;> omega
theorem noneT_spec {t : Ty} (h : noneT t = true) : t.kind = 0 ∧ t.l = [] ∧ t.names = [] := by
  simp [noneT] at h; exact ⟨h.1.1.1, h.2, h.1.2⟩
theorem Vd.dim {t : Ty} (h : Vd t) : Dim t := by
  rcases h with h | ⟨n, h⟩
  · obtain ⟨h1, h2, h3⟩ := noneT_spec h
    exact ⟨by simp [h3], by simp [h2], fun hk => by omega⟩
  · exact own_dim (deepB_own h)
theorem deepsB_mem {k : Int} {n : Int} : ∀ {l : List Ty}, deepsB k l n = true → ∀ x ∈ l, noneT x = true ∨ deepB x (n + 1) = true
  | [], _, x, hx => by simp at hx
  | t :: ts, h, x, hx => by
    simp only [deepsB, Bool.and_eq_true, Bool.or_eq_true] at h
    rcases List.mem_cons.1 hx with rfl | hx
    · rcases h.1 with h1 | h1
      · exact .inl h1.2
      · exact .inr h1
    · exact deepsB_mem h.2 x hx
theorem Vd.el {t x : Ty} (h : Vd t) (hx : x ∈ t.l) : Vd x := by
  rcases h with h | ⟨n, h⟩
  · rw [(noneT_spec h).2.1] at hx; simp at hx
  · rw [deepB_eq] at h
    simp only [Bool.and_eq_true] at h
    rcases deepsB_mem h.2 x hx with h1 | h1
    · exact .inl h1
    · exact .inr ⟨_, h1⟩
theorem plainT_el {t x : Ty} {z : Bool} (hx : x ∈ (plainT z t).l) : x = ty0 ∨ x ∈ t.l := by
  unfold plainT at hx
  split at hx
  · exact .inr hx
  · split at hx
    · exact .inl (List.eq_of_mem_replicate hx)
    · split at hx
      · exact List.mem_cons.1 hx
      · split at hx <;> exact .inr hx
theorem partsGo_plain (t : Ty) (z : Bool) (hk : t.kind ≠ 16) : partsGo 1 (plainT z t).l = partsGo 1 t.l := by
  unfold plainT
  split
  · rfl
  · split
    · show partsGo 1 (ty0 :: t.l) = _
      rw [partsGo_cons (by omega)]; rfl
    · split <;> rfl
theorem partsGo_rep (n : Nat) : partsGo 1 (List.replicate n ty0) = 1 := by
  induction n with
  | zero => rfl
  | succ n ih => rw [List.replicate_succ, partsGo_cons (by omega)]; exact ih
theorem plainT_kind (t : Ty) (z : Bool) : (plainT z t).kind ≠ 14 ∧ (plainT z t).kind ≠ 16 ∧ (plainT z t).kind ≠ 17 ∧ (plainT z t).kind ≠ 18 := by
  unfold plainT
  split
  · simp [Ty.kind]
  · split
    · simp [Ty.kind]
    · split
      · simp [Ty.kind]
      · split
        · simp [Ty.kind]
        · exact ⟨by assumption, by assumption, by assumption, by assumption⟩
theorem plainT_len {t : Ty} {z : Bool} (h : Dim t) : (plainT z t).l.length ≤ 65 ∧ ((plainT z t).kind = 19 → (plainT z t).names.length ≤ 32) := by
  have h1 := h.nm
  have h2 := h.l
  unfold plainT
  split
  · exact ⟨by show t.l.length ≤ 65; omega, fun e => by simp [Ty.kind] at e⟩
  · split
    · exact ⟨by show (List.replicate t.names.length ty0).length ≤ 65; rw [List.length_replicate]; omega, fun e => by simp [Ty.kind] at e⟩
    · split
      · exact ⟨by show (ty0 :: t.l).length ≤ 65; rw [List.length_cons]; omega, fun e => by simp [Ty.kind] at e⟩
      · split
        · exact ⟨by show t.l.length ≤ 65; omega, fun e => by simp [Ty.kind] at e⟩
        · exact ⟨by omega, h.fl⟩
theorem pw_el {t x : Ty} (h : partsGo 1 t.l ≤ 500) (hx : x ∈ t.l) : x.kind ≠ 0 → partsN x ≤ 500 := by
  have key : ∀ (l : List Ty) (n : Int), 1 ≤ n → partsGo n l ≤ 500 → ∀ x ∈ l, x.kind ≠ 0 → partsN x ≤ 500 := by
    intro l
    induction l with
    | nil => intro n _ _ x hx; simp at hx
    | cons y l ih =>
      intro n hn hp x hx hk
      obtain ⟨h1, h2⟩ := partsGo_pw hp
      rw [partsGo_cons h2] at hp
      rcases List.mem_cons.1 hx with rfl | hx
      · rw [pw, if_neg hk] at h1; omega
      · exact ih _ (by have := pw_nonneg y; omega) hp x hx hk
  exact key t.l 1 (by omega) h x hx
theorem lay0_p : E.Pure Tryd.prog 42 [encTy ty0] (.one (.t (cplx (0, 1)))) :=
  lay_core ty0 ty0 (plain_p ty0 (by decide) (by decide)) (by decide) (fun e => by cases e) (by decide) (fun i h => absurd h (Nat.not_lt_zero i)) (fun y hy => by cases hy) (fun h => absurd rfl h)
theorem lay_p : ∀ (m : Nat) (t : Ty), SizeOf.sizeOf t ≤ m → Vd t → (t.kind ≠ 0 → partsN t ≤ 500) → E.Pure Tryd.prog 42 [encTy t] (.one (.t (cplx (layN t)))) := by
  intro m
  induction m with
  | zero => intro t hm; cases t; simp at hm
  | succ m ih =>
    intro t hm hv hp
    have hd := hv.dim
    have hx := plainT_len (z := false) hd
    have hz : t.kind = 0 → t.l = [] := fun hk => by
      rcases hv with h | ⟨n, h⟩
      · exact (noneT_spec h).2.1
      · have := deepB_own h; simp [ownB, hk] at this
    have hsum : partsGo 1 t.l ≤ 500 := by
      by_cases hk : t.kind = 0
      · rw [hz hk]; decide
      · rw [← partsN_eq]; exact hp hk
    have hsum2 : partsGo 1 (plainT false t).l ≤ 500 := by
      by_cases hk : t.kind = 16
      · have : (plainT false t).l = List.replicate t.names.length ty0 := by rw [plainT, if_neg (by omega), if_pos hk]; rfl
        rw [this, partsGo_rep]; omega
      · rw [partsGo_plain t false hk]; exact hsum
    rw [← layN_plain t false, layN_eq]
    refine lay_core t (plainT false t) (plain_p t hd.nm hd.l) (plainT_kind t false) hx.2 hx.1 (fun i h => ?_) (layNs_sm _ 1 hsum2 (by omega)) (fun _ => hsum2)
    have hmem := List.getElem_mem h
    rw [show agTy (plainT false t).l[i] = encTy (plainT false t).l[i] from (encTy_eta _).symm]
    rcases plainT_el hmem with e | e
    · rw [e, layN_ty0]; exact lay0_p
    · exact ih _ (by have h1 := List.sizeOf_lt_of_mem e; have h2 : SizeOf.sizeOf t.l < SizeOf.sizeOf t := by cases t; simp [Ty.l]; omega
                     omega) (hv.el e) (pw_el hsum e)
end Go.Proofs.YtaplmmhkpljmkaaDoor
