/- Layer 10: the reference's Name. -/
import Derived.Test.YtmhbibfkhbaclaaGreatDoorK4
namespace Go.Proofs.YtmhbibfkhbaclaaGreatDoor
open Go E
set_option maxRecDepth 100000
set_option linter.unusedVariables false
set_option linter.unusedSimpArgs false
attribute [local irreducible] Tri TriL TriO PO VO E.Pure DOb
def kindOf (c : Int) : Int := if c ≥ 97 ∧ c ≤ 122 then 1 else if c ≥ 65 ∧ c ≤ 90 then 2 else if c ≥ 48 ∧ c ≤ 57 then 3 else if c = 45 then 4 else if c = 46 then 5 else 0
theorem kind_p (c : Int) : E.Pure Tryz.prog 106 [.v (.int .u8 c)] (.one (.t (tInt (kindOf c)))) := by
  refine Pure.of1 Tryz.func106 rfl rfl (Nat.le_of_ble_eq_true rfl) rfl ?_
  repeat' (first | refine Tri.seq ?_ | refine Tri.reg ?_ | refine TriL.nil ?_ | (apply U.moveT; rfl; trivial; rfl) | (apply U.assignT; rfl; trivial; rfl) | (apply U.bin; rfl; trivial; rfl; trivial; rfl; rfl) | (apply U.pickb; rfl; trivial; rfl; (first | trivial | exact id | exact And.right | exact gvA | exact gvB | exact And.left | exact gvN | exact gvP2 | exact gvN2 | exact gvLA); rfl; (first | trivial | exact id | exact And.right | exact gvA | exact gvB | exact And.left | exact gvN | exact gvP2 | exact gvN2 | exact gvLA); rfl) | (apply G.moveT; rfl; (first | trivial | exact id | exact And.right | exact gvA | exact gvB | exact And.left | exact gvN | exact gvP2 | exact gvN2 | exact gvLA); rfl; rfl; rfl) | (apply G.bin; rfl; (first | trivial | exact id | exact And.right | exact gvA | exact gvB | exact And.left | exact gvN | exact gvP2 | exact gvN2 | exact gvLA); rfl; (first | trivial | exact id | exact And.right | exact gvA | exact gvB | exact And.left | exact gvN | exact gvP2 | exact gvN2 | exact gvLA); rfl; rfl; rfl; rfl) | refine Tri.skip ?_ | refine Tri.ret ?_ | (refine Tri.cond rfl (fun h => ?_) (fun h => ?_) <;> (try simp at h) <;> (try contradiction)) | fail)
  all_goals (refine Comes1.ret rfl ?_; simp only [kindOf]; (repeat' split) <;> first | rfl | (exfalso; omega))
/-- May the letters go on, behind a part's begin (or at one)? -/
def nmGo : Bool → Int → List UInt8 → Bool
  | st, _, [] => !st
  | true, _, c :: cs => if kindOf c.toNat = 1 ∨ kindOf c.toNat = 2 then nmGo false (kindOf c.toNat) cs else false
  | false, z, c :: cs => if kindOf c.toNat = z ∨ kindOf c.toNat = 3 ∨ kindOf c.toNat = 4 then nmGo (decide (c = 45)) z cs else false
def nameOk (s : ByteArray) : Bool := decide (1 ≤ s.size) && decide (s.size ≤ 100) && nmGo true 0 (bs s)
def stAt (l : List UInt8) (i : Nat) : Bool := decide (i = 0) || decide (l.getD (i - 1) 0 = 45)
set_option maxHeartbeats 4000000
theorem name_p (s : ByteArray) : E.Pure Tryz.prog 92 [tStr s] (.one (.t (tBool (nameOk s)))) := by
  refine Pure.of1 Tryz.func92 rfl rfl (Nat.le_of_ble_eq_true rfl) rfl ?_
  repeat' (first | refine Tri.seq ?_ | refine Tri.reg ?_ | refine TriL.nil ?_ | (apply U.moveT; rfl; trivial; rfl) | (apply U.assignT; rfl; trivial; rfl) | (apply U.bin; rfl; trivial; rfl; trivial; rfl; rfl) | (apply U.lenS; rfl; trivial; rfl) | (apply U.pickb; rfl; trivial; rfl; (first | trivial | exact id | exact And.right | exact gvA | exact gvB | exact And.left | exact gvN | exact gvP2 | exact gvN2 | exact gvLA); rfl; (first | trivial | exact id | exact And.right | exact gvA | exact gvB | exact And.left | exact gvN | exact gvP2 | exact gvN2 | exact gvLA); rfl) | (apply G.moveT; rfl; (first | trivial | exact id | exact And.right | exact gvA | exact gvB | exact And.left | exact gvN | exact gvP2 | exact gvN2 | exact gvLA); rfl; rfl; rfl) | (apply G.bin; rfl; (first | trivial | exact id | exact And.right | exact gvA | exact gvB | exact And.left | exact gvN | exact gvP2 | exact gvN2 | exact gvLA); rfl; (first | trivial | exact id | exact And.right | exact gvA | exact gvB | exact And.left | exact gvN | exact gvP2 | exact gvN2 | exact gvLA); rfl; rfl; rfl; rfl) | (apply G.lenS; rfl; (first | trivial | exact id | exact And.right | exact gvA | exact gvB | exact And.left | exact gvN | exact gvP2 | exact gvN2 | exact gvLA); rfl; rfl; rfl) | refine Tri.skip ?_ | refine Tri.block ?_ | refine Tri.ret ?_ | (refine Tri.cond rfl (fun h => ?_) (fun h => ?_) <;> (try simp at h) <;> (try contradiction)) | fail)
  · refine Comes1.ret rfl ?_
    simp only [tBool, nameOk]; congr 3; simp; omega
  · refine Tri.loopS (α := Nat × Int) (fun a => ⟨[(4, .t (tInt a.1)), (3, .t (tInt a.2)), (2, .t (tBool false)), (0, .t (tStr s))], Tryz.f92.ntmps, [], 0, 0⟩)
      (fun a => a.1 ≤ s.size ∧ nmGo true 0 (bs s) = nmGo (stAt (bs s) a.1) a.2 ((bs s).drop a.1)) (fun a => s.size - a.1) (0, 0) ?_ ?_ ?_
    · exact ⟨Nat.zero_le _, by simp [stAt]⟩
    · exact Sub.of rfl rfl ⟨rfl, rfl, rfl, rfl, trivial⟩ trivial
    · rintro ⟨i, z⟩ ⟨hi, hn⟩
      dsimp only at hi hn ⊢
      have hl := bs_length s
      repeat' (first | refine Tri.seq ?_ | refine Tri.reg ?_ | refine TriL.nil ?_ | (apply U.moveT; rfl; trivial; rfl) | (apply U.assignT; rfl; trivial; rfl) | (apply U.sub; rfl; trivial; rfl; trivial; exact fun _ => wrap_i64 (by omega) (by omega); rfl) | (apply U.bin; rfl; trivial; rfl; trivial; rfl; rfl) | (apply U.lenS; rfl; trivial; rfl) | (apply U.idxS; rfl; trivial; rfl; trivial; exact fun _ => (by omega); exact fun _ => (by omega); rfl) | refine Tri.skip ?_ | refine Tri.block ?_ | refine Tri.exit ?_ | refine Tri.ret ?_ | (refine Tri.cond rfl (fun h => ?_) (fun h => ?_) <;> (try simp at h) <;> (try contradiction)) | fail)
      · refine U.call1 rfl rfl (kind_p _) rfl ?_
        have hlt : i < (bs s).length := by omega
        rw [byteAt_get hlt]
        have hdrop := List.drop_eq_getElem_cons hlt
        have hst : stAt (bs s) (i + 1) = decide ((bs s)[i] = 45) := by
          rw [stAt, Nat.add_sub_cancel, List.getD_eq_getElem?_getD, List.getElem?_eq_getElem hlt]; simp
        repeat' (first | refine Tri.seq ?_ | refine Tri.reg ?_ | refine TriL.nil ?_ | (apply U.moveT; rfl; trivial; rfl) | (apply U.assignT; rfl; trivial; rfl) | (apply U.add; rfl; trivial; rfl; trivial; exact fun _ => wrap_i64 (by omega) (by omega); rfl) | (apply U.bin; rfl; trivial; rfl; trivial; rfl; rfl) | (apply U.pickb; rfl; trivial; rfl; (first | trivial | exact id | exact And.right | exact gvA | exact gvB | exact And.left | exact gvN | exact gvP2 | exact gvN2 | exact gvLA); rfl; (first | trivial | exact id | exact And.right | exact gvA | exact gvB | exact And.left | exact gvN | exact gvP2 | exact gvN2 | exact gvLA); rfl) | (apply G.moveT; rfl; (first | trivial | exact id | exact And.right | exact gvA | exact gvB | exact And.left | exact gvN | exact gvP2 | exact gvN2 | exact gvLA); rfl; rfl; rfl) | (apply G.sub; rfl; (first | trivial | exact id | exact And.right | exact gvA | exact gvB | exact And.left | exact gvN | exact gvP2 | exact gvN2 | exact gvLA); rfl; (first | trivial | exact id | exact And.right | exact gvA | exact gvB | exact And.left | exact gvN | exact gvP2 | exact gvN2 | exact gvLA); exact fun _ => wrap_i64 (by omega) (by omega); rfl; rfl; rfl) | (apply G.bin; rfl; (first | trivial | exact id | exact And.right | exact gvA | exact gvB | exact And.left | exact gvN | exact gvP2 | exact gvN2 | exact gvLA); rfl; (first | trivial | exact id | exact And.right | exact gvA | exact gvB | exact And.left | exact gvN | exact gvP2 | exact gvN2 | exact gvLA); rfl; rfl; rfl; rfl) | (apply G.idxS; rfl; (first | trivial | exact id | exact And.right | exact gvA | exact gvB | exact And.left | exact gvN | exact gvP2 | exact gvN2 | exact gvLA); rfl; (first | trivial | exact id | exact And.right | exact gvA | exact gvB | exact And.left | exact gvN | exact gvP2 | exact gvN2 | exact gvLA); exact fun h_ => (by simp at h_; omega); exact fun h_ => (by simp at h_; omega); rfl; rfl; rfl) | refine Tri.skip ?_ | refine Tri.ret ?_ | (refine Tri.cond rfl (fun h => ?_) (fun h => ?_) <;> (try simp at h) <;> (try contradiction)) | fail)
        all_goals rename_i h0
        all_goals
          have e1 : byteAt s ((i : Int) - 1) = (bs s).getD (i - 1) 0 := by
            rw [byteAt]; congr 1; omega
          rw [e1, show (45 : Int) = ((45 : Nat) : Int) from rfl, u8_eq _ 45 (by decide)] at h0
        · refine Comes1.ret rfl ?_
          have hst0 : stAt (bs s) i = true := by simp only [stAt, Bool.or_eq_true, decide_eq_true_eq]; exact h0
          rw [hst0, hdrop, nmGo, if_neg (by simpa using h)] at hn
          rw [nameOk, hn, Bool.and_false]; rfl
        · have hst0 : stAt (bs s) i = true := by simp only [stAt, Bool.or_eq_true, decide_eq_true_eq]; exact h0
          have hk : kindOf (bs s)[i].toNat = 1 ∨ kindOf (bs s)[i].toNat = 2 := by
            by_cases e : kindOf (bs s)[i].toNat = 1
            · exact .inl e
            · exact .inr (h e)
          rw [hst0, hdrop, nmGo, if_pos hk] at hn
          refine ⟨(i + 1, kindOf (bs s)[i].toNat), ⟨by omega, ?_⟩, by dsimp only; omega, Sub.of rfl rfl ⟨rfl, rfl, rfl, rfl, trivial⟩ trivial⟩
          dsimp only
          rw [hn, hst]; congr 1
          refine (decide_eq_false fun e => ?_).symm
          rw [e] at hk; revert hk; decide
        · refine Comes1.ret rfl ?_
          have hst0 : stAt (bs s) i = false := by simp only [stAt, Bool.or_eq_false_iff, decide_eq_false_iff_not]; exact h0
          rw [hst0, hdrop, nmGo, if_neg (by simp only [not_or]; exact ⟨h.1.1, h.1.2, h.2⟩)] at hn
          rw [nameOk, hn, Bool.and_false]; rfl
        · have hst0 : stAt (bs s) i = false := by simp only [stAt, Bool.or_eq_false_iff, decide_eq_false_iff_not]; exact h0
          have hk : kindOf (bs s)[i].toNat = z ∨ kindOf (bs s)[i].toNat = 3 ∨ kindOf (bs s)[i].toNat = 4 := by
            by_cases e : kindOf (bs s)[i].toNat = z
            · exact .inl e
            · by_cases e2 : kindOf (bs s)[i].toNat = 3
              · exact .inr (.inl e2)
              · exact .inr (.inr (h e e2))
          rw [hst0, hdrop, nmGo, if_pos hk] at hn
          refine ⟨(i + 1, z), ⟨by omega, ?_⟩, by dsimp only; omega, Sub.of rfl rfl ⟨rfl, rfl, rfl, rfl, trivial⟩ trivial⟩
          dsimp only
          rw [hn, hst]
      · refine Comes1.ret rfl ?_
        have hi' : i = s.size := by omega
        have h1 : s.size ≠ 0 := by omega
        have e1 : byteAt s ((s.size : Int) - 1) = (bs s).getD (s.size - 1) 0 := by
          rw [byteAt]; congr 1; omega
        subst hi'
        rw [List.drop_eq_nil_of_le (by omega)] at hn
        rw [nameOk, hn, nmGo, stAt, e1]
        generalize (bs s).getD (s.size - 1) 0 = c
        have h2 : (1 ≤ s.size) := by omega
        have h3 : (s.size ≤ 100) := by omega
        have := u8_eq c 45 (by decide)
        simp only [tBool, h1, h2, h3, decide_true, decide_false, Bool.true_and, Bool.false_or]
        congr 3
        simp only [ne_eq, decide_not]
        congr 1
        simpa using this
end Go.Proofs.YtmhbibfkhbaclaaGreatDoor

/- Layers 11, 13: the reference's names, own, deep, parts, May. -/
namespace Go.Proofs.YtmhbibfkhbaclaaGreatDoor
open Go E
set_option maxRecDepth 100000
set_option maxHeartbeats 4000000
set_option linter.unusedVariables false
set_option linter.unusedSimpArgs false
attribute [local irreducible] Tri TriL TriO PO VO E.Pure DOb
def inB (s : ByteArray) (l : List ByteArray) : Bool := l.any fun x => decide (x = s)
theorem inB_append (s : ByteArray) (l m : List ByteArray) : inB s (l ++ m) = (inB s l || inB s m) := by simp [inB]
/-- Names, behind others: all are, and differ. -/
def namesGo : List ByteArray → List ByteArray → Bool
  | _, [] => true
  | seen, s :: t => nameOk s && !inB s seen && namesGo (seen ++ [s]) t
def namesB (l : List ByteArray) (most : Int) : Bool := namesGo [] l && decide (1 ≤ (l.length : Int)) && decide ((l.length : Int) ≤ most)
theorem get_str {l : List ByteArray} {i : Nat} (h : i < l.length) : (l.map tStr)[((i : Nat) : Int).toNat]? = some (tStr l[i]) := by
  rw [Int.toNat_natCast, List.getElem?_map, List.getElem?_eq_getElem h]; rfl
theorem namesGo_step {l : List ByteArray} {i : Nat} (h : i < l.length) : namesGo (l.take i) (l.drop i) = (nameOk l[i] && !inB l[i] (l.take i) && namesGo (l.take (i + 1)) (l.drop (i + 1))) := by
  rw [List.drop_eq_getElem_cons h, namesGo, List.take_succ_eq_append_getElem h]
theorem names_p (l : List ByteArray) (nn : Bool) (most : Int) (hb : l.length ≤ big) : E.Pure Tryz.prog 76 [.sl nn (l.map tStr), tInt most] (.one (.t (tBool (namesB l most)))) := by
  unfold big at hb
  refine Pure.of1 Tryz.func76 rfl rfl (Nat.le_of_ble_eq_true rfl) rfl ?_
  repeat' (first | refine Tri.seq ?_ | refine Tri.reg ?_ | refine TriL.nil ?_ | (apply U.assignT; rfl; trivial; rfl) | refine Tri.block ?_ | fail)
  refine Tri.loopS (α := Nat) (fun i => ⟨[(5, .t (tInt i)), (0, .t (.sl nn (l.map tStr))), (1, .t (tInt most))], Tryz.f76.ntmps, [], 0, 0⟩)
      (fun i => i ≤ l.length ∧ namesGo [] l = namesGo (l.take i) (l.drop i)) (fun i => l.length - i) 0 ?_ ?_ ?_
  · exact ⟨Nat.zero_le _, rfl⟩
  · exact Sub.of rfl rfl ⟨rfl, rfl, rfl, trivial⟩ trivial
  · rintro i ⟨hi, hn⟩
    have hlen : (l.map tStr).length = l.length := by simp
    repeat' (first | refine Tri.seq ?_ | refine Tri.reg ?_ | refine TriL.nil ?_ | (apply U.moveT; rfl; trivial; rfl) | (apply U.assignT; rfl; trivial; rfl) | (apply U.bin; rfl; trivial; rfl; trivial; rfl; rfl) | (apply U.len; rfl; trivial; rfl) | (apply U.pickb; rfl; trivial; rfl; (first | trivial | exact id | exact And.right | exact gvA | exact gvB | exact And.left | exact gvN | exact gvP2 | exact gvN2 | exact gvLA); rfl; (first | trivial | exact id | exact And.right | exact gvA | exact gvB | exact And.left | exact gvN | exact gvP2 | exact gvN2 | exact gvLA); rfl) | (apply G.moveT; rfl; (first | trivial | exact id | exact And.right | exact gvA | exact gvB | exact And.left | exact gvN | exact gvP2 | exact gvN2 | exact gvLA); rfl; rfl; rfl) | (apply G.bin; rfl; (first | trivial | exact id | exact And.right | exact gvA | exact gvB | exact And.left | exact gvN | exact gvP2 | exact gvN2 | exact gvLA); rfl; (first | trivial | exact id | exact And.right | exact gvA | exact gvB | exact And.left | exact gvN | exact gvP2 | exact gvN2 | exact gvLA); rfl; rfl; rfl; rfl) | (apply G.len; rfl; (first | trivial | exact id | exact And.right | exact gvA | exact gvB | exact And.left | exact gvN | exact gvP2 | exact gvN2 | exact gvLA); rfl; rfl; rfl) | refine Tri.skip ?_ | refine Tri.block ?_ | refine Tri.exit ?_ | refine Tri.ret ?_ | (refine Tri.cond rfl (fun h => ?_) (fun h => ?_) <;> (try simp at h) <;> (try contradiction)) | fail)
    · have hlt : i < l.length := by omega
      have hget := get_str hlt
      have hstep := namesGo_step hlt
      repeat' (first | (apply U.loadE; rfl; rfl; trivial; rfl; rfl) | (apply U.idx; rfl; trivial; rfl; trivial; exact fun _ => (by omega); exact fun _ => (by assumption); exact fun _ => rfl; rfl) | fail)
      refine U.call1 rfl rfl (name_p _) rfl ?_
      repeat' (first | refine Tri.seq ?_ | refine Tri.reg ?_ | refine TriL.nil ?_ | (apply U.assignT; rfl; trivial; rfl) | (apply U.not; rfl; trivial; rfl) | refine Tri.skip ?_ | refine Tri.block ?_ | refine Tri.ret ?_ | (refine Tri.cond rfl (fun h => ?_) (fun h => ?_) <;> (try simp at h) <;> (try contradiction)) | fail)
      · refine Comes1.ret rfl ?_
        rw [namesB, hn, hstep]; simp [h, tBool]
      · refine Tri.loopS (α := Nat) (fun k => ⟨[(6, .t (tInt k)), (5, .t (tInt i)), (0, .t (.sl nn (l.map tStr))), (1, .t (tInt most))], Tryz.f76.ntmps, [], 0, 0⟩)
          (fun k => k ≤ i ∧ inB l[i] (l.take k) = false) (fun k => i - k) 0 ?_ ?_ ?_
        · exact ⟨Nat.zero_le _, rfl⟩
        · exact Sub.of rfl rfl ⟨rfl, rfl, rfl, rfl, trivial⟩ trivial
        · rintro k ⟨hk, hno⟩
          repeat' (first | refine Tri.seq ?_ | refine Tri.reg ?_ | refine TriL.nil ?_ | (apply U.moveT; rfl; trivial; rfl) | (apply U.assignT; rfl; trivial; rfl) | (apply U.add; rfl; trivial; rfl; trivial; exact fun _ => wrap_i64 (by omega) (by omega); rfl) | (apply U.bin; rfl; trivial; rfl; trivial; rfl; rfl) | refine Tri.skip ?_ | refine Tri.block ?_ | refine Tri.exit ?_ | (refine Tri.cond rfl (fun h => ?_) (fun h => ?_) <;> (try simp at h) <;> (try contradiction)) | fail)
          · have hkl : k < l.length := by omega
            have hgetk := get_str hkl
            refine Tri.regD [] mixed (by kernel_rfl) ?_
            repeat' (first | refine Tri.seq ?_ | refine Tri.reg ?_ | refine TriL.nil ?_ | exact ⟨rfl, rfl, rfl⟩ | (apply D.v; rfl; rfl; rfl) | refine D.nil ?_ | (apply U.moveT; rfl; trivial; rfl) | (apply U.assignT; rfl; trivial; rfl) | (apply U.add; rfl; trivial; rfl; trivial; exact fun _ => wrap_i64 (by omega) (by omega); rfl) | (apply U.bin; rfl; trivial; rfl; trivial; rfl; rfl) | (apply U.loadE; rfl; rfl; trivial; rfl; rfl) | (apply U.idx; rfl; trivial; rfl; trivial; exact fun _ => (by omega); exact fun _ => (by assumption); exact fun _ => rfl; rfl) | refine Tri.skip ?_ | refine Tri.ret ?_ | (refine Tri.cond rfl (fun h => ?_) (fun h => ?_) <;> (try simp at h) <;> (try contradiction)) | fail)
            · refine Comes1.ret rfl ?_
              have hin : inB l[i] (l.take i) = true := by
                simp only [inB, List.any_eq_true, decide_eq_true_eq]
                exact ⟨l[k], List.mem_take_iff_getElem.2 ⟨k, by omega, rfl⟩, h⟩
              rw [namesB, hn, hstep, hin]; simp [tBool]
            · refine ⟨k + 1, ⟨by omega, ?_⟩, by omega, Sub.of rfl rfl ⟨rfl, rfl, rfl, rfl, trivial⟩ trivial⟩
              rw [List.take_succ_eq_append_getElem hkl, inB_append, hno]; simp [inB, h]
          · have hki : k = i := by omega
            subst hki
            refine ⟨k + 1, ⟨by omega, ?_⟩, by omega, Sub.of rfl rfl ⟨rfl, rfl, rfl, trivial⟩ trivial⟩
            rw [hn, hstep, show nameOk l[k] = true by assumption, hno]; simp
    · refine Comes1.ret rfl ?_
      have : i = l.length := by omega
      subst this
      rw [List.drop_length, namesGo] at hn
      rw [namesB, hn]; simp [tBool]
end Go.Proofs.YtmhbibfkhbaclaaGreatDoor

/- Layers 11, 13: None, own. -/
namespace Go.Proofs.YtmhbibfkhbaclaaGreatDoor
open Go E
set_option maxRecDepth 100000
set_option maxHeartbeats 4000000
set_option linter.unusedVariables false
set_option linter.unusedSimpArgs false
attribute [local irreducible] Tri TriL TriO PO VO E.Pure DOb
theorem retB {a b : Bool} (h : a = b) : R1.t (.v (.bool a)) = R1.t (tBool b) := by rw [h]; rfl
def noneT (t : Ty) : Bool := decide (t.kind = 0) && decide (t.r = 0) && decide (t.names.length = 0) && decide (t.l.length = 0)
theorem none_p (t : Ty) : E.Pure Tryz.prog 58 [encTy t] (.one (.t (tBool (noneT t)))) := by
  refine Pure.of1 Tryz.func58 rfl rfl (Nat.le_of_ble_eq_true rfl) rfl ?_
  rw [encTy_eta]
  repeat' (first | refine Tri.seq ?_ | refine Tri.reg ?_ | refine TriL.nil ?_ | (apply U.moveT; rfl; trivial; rfl) | (apply U.assignT; rfl; trivial; rfl) | (apply U.load; rfl; rfl; trivial; rfl; rfl; rfl) | (apply U.fld; rfl; trivial; rfl; infer_instance; decide; rfl) | (apply U.bin; rfl; trivial; rfl; trivial; rfl; rfl) | (apply U.pickb; rfl; trivial; rfl; (first | trivial | exact id | exact And.right | exact gvA | exact gvB | exact And.left | exact gvN | exact gvP2 | exact gvN2 | exact gvLA); rfl; (first | trivial | exact id | exact And.right | exact gvA | exact gvB | exact And.left | exact gvN | exact gvP2 | exact gvN2 | exact gvLA); rfl) | (apply U.boxA; rfl; rfl) | (apply G.load; rfl; rfl; (first | trivial | exact id | exact And.right | exact gvA | exact gvB | exact And.left | exact gvN | exact gvP2 | exact gvN2 | exact gvLA); rfl; rfl; rfl; rfl; rfl) | (apply G.fld; rfl; (first | trivial | exact id | exact And.right | exact gvA | exact gvB | exact And.left | exact gvN | exact gvP2 | exact gvN2 | exact gvLA); rfl; infer_instance; decide; rfl; rfl; rfl) | (apply G.bin; rfl; (first | trivial | exact id | exact And.right | exact gvA | exact gvB | exact And.left | exact gvN | exact gvP2 | exact gvN2 | exact gvLA); rfl; (first | trivial | exact id | exact And.right | exact gvA | exact gvB | exact And.left | exact gvN | exact gvP2 | exact gvN2 | exact gvLA); rfl; rfl; rfl; rfl) | (apply G.len; rfl; (first | trivial | exact id | exact And.right | exact gvA | exact gvB | exact And.left | exact gvN | exact gvP2 | exact gvN2 | exact gvLA); rfl; rfl; rfl) | refine Tri.ret ?_ | fail)
  refine Comes1.ret rfl (retB ?_)
  rw [Bool.eq_iff_iff]
  simp [noneT, encTys_length]
/-- May a type's own fields be? -/
def ownB (t : Ty) : Bool :=
  if t.kind = 20 ∨ t.kind = 21 then decide (t.names.length = 0) && decide (t.l.length = 0) && decide (t.r ≥ 0) && decide (t.r ≤ 1048576)
  else if t.r ≠ 0 ∨ t.l.length > 64 then false
  else if t.kind = 13 ∨ t.kind = 15 then namesB t.names 64 && decide (t.l.length = t.names.length)
  else if t.kind = 16 then namesB t.names 64 && decide (t.l.length = 0)
  else if t.kind = 19 then namesB t.names 32 && decide (t.l.length = 0)
  else if t.names.length > 0 then false
  else if t.kind = 12 ∨ t.kind = 17 then decide (t.l.length = 1)
  else if t.kind = 14 then decide (t.l.length ≥ 1)
  else if t.kind = 18 then decide (t.l.length = 2)
  else decide (t.kind ≥ 1) && decide (t.kind ≤ 11) && decide (t.l.length = 0)
theorem own_p (t : Ty) (hs : small t) : E.Pure Tryz.prog 57 [encTy t] (.one (.t (tBool (ownB t)))) := by
  have hn1 := names_p t.names t.nn 64 (small_names hs)
  have hn2 := names_p t.names t.nn 32 (small_names hs)
  have hb1 := small_names hs
  have hb2 := small_l hs
  unfold big at hb1 hb2
  refine Pure.of1 Tryz.func57 rfl rfl (Nat.le_of_ble_eq_true rfl) rfl ?_
  rw [encTy_eta]
  repeat' (first | refine Tri.seq ?_ | refine Tri.reg ?_ | refine TriL.nil ?_ | (apply U.moveT; rfl; trivial; rfl) | (apply U.assignT; rfl; trivial; rfl) | (apply U.load; rfl; rfl; trivial; rfl; rfl; rfl) | (apply U.fld; rfl; trivial; rfl; infer_instance; decide; rfl) | (apply U.bin; rfl; trivial; rfl; trivial; rfl; rfl) | (apply U.len; rfl; trivial; rfl) | (apply U.pickb; rfl; trivial; rfl; (first | trivial | exact id | exact And.right | exact gvA | exact gvB | exact And.left | exact gvN | exact gvP2 | exact gvN2 | exact gvLA); rfl; (first | trivial | exact id | exact And.right | exact gvA | exact gvB | exact And.left | exact gvN | exact gvP2 | exact gvN2 | exact gvLA); rfl) | (apply U.boxA; rfl; rfl) | (apply G.moveT; rfl; (first | trivial | exact id | exact And.right | exact gvA | exact gvB | exact And.left | exact gvN | exact gvP2 | exact gvN2 | exact gvLA); rfl; rfl; rfl) | (apply G.load; rfl; rfl; (first | trivial | exact id | exact And.right | exact gvA | exact gvB | exact And.left | exact gvN | exact gvP2 | exact gvN2 | exact gvLA); rfl; rfl; rfl; rfl; rfl) | (apply G.fld; rfl; (first | trivial | exact id | exact And.right | exact gvA | exact gvB | exact And.left | exact gvN | exact gvP2 | exact gvN2 | exact gvLA); rfl; infer_instance; decide; rfl; rfl; rfl) | (apply G.bin; rfl; (first | trivial | exact id | exact And.right | exact gvA | exact gvB | exact And.left | exact gvN | exact gvP2 | exact gvN2 | exact gvLA); rfl; (first | trivial | exact id | exact And.right | exact gvA | exact gvB | exact And.left | exact gvN | exact gvP2 | exact gvN2 | exact gvLA); rfl; rfl; rfl; rfl) | (apply G.len; rfl; (first | trivial | exact id | exact And.right | exact gvA | exact gvB | exact And.left | exact gvN | exact gvP2 | exact gvN2 | exact gvLA); rfl; rfl; rfl) | refine U.call2 rfl rfl rfl (by assumption) rfl ?_ | refine Tri.skip ?_ | refine Tri.ret ?_ | (refine Tri.cond rfl (fun h => ?_) (fun h => ?_) <;> (try simp at h) <;> (try contradiction)) | fail)
  all_goals (refine Comes1.ret rfl (retB ?_); clear hn1 hn2 hs; simp only [encTys_length, List.length_map] at *; rw [Bool.eq_iff_iff]; simp [ownB, -List.length_eq_zero_iff, *] <;> (try omega))
  exact ⟨fun h => ⟨by omega, h.1, by omega⟩, fun h => ⟨h.2.1, by omega⟩⟩
end Go.Proofs.YtmhbibfkhbaclaaGreatDoor

/- Layer 13: deep. -/
namespace Go.Proofs.YtmhbibfkhbaclaaGreatDoor
open Go E
set_option maxRecDepth 100000
set_option maxHeartbeats 4000000
set_option linter.unusedVariables false
set_option linter.unusedSimpArgs false
attribute [local irreducible] Tri TriL TriO PO VO E.Pure DOb
mutual
/-- May a type be, within so many others? -/
def deepB : Ty → Int → Bool
  | .mk k nn ns nl l r, n => !decide (n ≥ 16) && ownB (.mk k nn ns nl l r) && deepsB k l n
def deepsB (k : Int) : List Ty → Int → Bool
  | [], _ => true
  | t :: ts, n => (decide (k = 15 ∨ k = 18) && noneT t || deepB t (n + 1)) && deepsB k ts n
end
theorem deepB_eq (t : Ty) (n : Int) : deepB t n = (!decide (n ≥ 16) && ownB t && deepsB t.kind t.l n) := by cases t; rw [deepB]; rfl
theorem deepsB_step (k : Int) (l : List Ty) (n : Int) (i : Nat) (h : i < l.length) : deepsB k (l.drop i) n = ((decide (k = 15 ∨ k = 18) && noneT l[i] || deepB l[i] (n + 1)) && deepsB k (l.drop (i + 1)) n) := by
  rw [List.drop_eq_getElem_cons h, deepsB]
theorem size_get {l : List Ty} {i : Nat} (h : i < l.length) (t : Ty) (ht : t.l = l) : SizeOf.sizeOf l[i] < SizeOf.sizeOf t := by
  have h1 := List.sizeOf_lt_of_mem (List.getElem_mem h)
  cases t; simp only [Ty.l] at ht; subst ht; simp; omega
/-- A type, as it lies. -/
abbrev agTy (t : Ty) : T := .agg [.v (.int .i64 t.kind), .sl t.nn (t.names.map tStr), .sl t.nl (encTys t.l), .v (.int .i64 t.r)]
theorem get_ty {l : List Ty} {i : Nat} (h : i < l.length) : (encTys l)[((i : Nat) : Int).toNat]? = some (agTy l[i]) := by
  rw [Int.toNat_natCast, encTys_get, List.getElem?_eq_getElem h, Option.map_some, encTy_eta]
theorem deep_p : ∀ (m : Nat) (t : Ty) (n : Int), SizeOf.sizeOf t ≤ m → small t → -1000 ≤ n → n ≤ 1000 → E.Pure Tryz.prog 32 [encTy t, tInt n] (.one (.t (tBool (deepB t n)))) := by
  intro m
  induction m with
  | zero => intro t n hm; cases t; simp at hm
  | succ m ih =>
    intro t n hm hs hn1 hn2
    have hown := own_p t hs
    rw [encTy_eta] at hown
    have hb2 := small_l hs
    unfold big at hb2
    have hlen := encTys_length t.l
    refine Pure.of1 Tryz.func32 rfl rfl (Nat.le_of_ble_eq_true rfl) rfl ?_
    rw [encTy_eta]
    repeat' (first | refine Tri.seq ?_ | refine Tri.reg ?_ | refine TriL.nil ?_ | (apply U.moveT; rfl; trivial; rfl) | (apply U.assignT; rfl; trivial; rfl) | (apply U.bin; rfl; trivial; rfl; trivial; rfl; rfl) | (apply U.pickb; rfl; trivial; rfl; (first | trivial | exact id | exact And.right | exact gvA | exact gvB | exact And.left | exact gvN | exact gvP2 | exact gvN2 | exact gvLA); rfl; (first | trivial | exact id | exact And.right | exact gvA | exact gvB | exact And.left | exact gvN | exact gvP2 | exact gvN2 | exact gvLA); rfl) | (apply U.boxA; rfl; rfl) | (apply G.loadS; rfl; rfl; (first | trivial | exact id | exact And.right | exact gvA | exact gvB | exact And.left | exact gvN | exact gvP2 | exact gvN2 | exact gvLA); rfl; rfl; rfl; rfl; rfl; rfl; rfl) | (apply G.not; rfl; (first | trivial | exact id | exact And.right | exact gvA | exact gvB | exact And.left | exact gvN | exact gvP2 | exact gvN2 | exact gvLA); rfl; rfl; rfl) | refine G.call1 rfl rfl (by (first | trivial | exact id | exact And.right | exact gvA | exact gvB | exact And.left | exact gvN | exact gvP2 | exact gvN2 | exact gvLA)) (by first | assumption | exact fun _ => by assumption) rfl rfl rfl ?_ | refine Tri.skip ?_ | refine Tri.block ?_ | refine Tri.ret ?_ | (refine Tri.cond rfl (fun h => ?_) (fun h => ?_) <;> (try simp at h) <;> (try contradiction)) | fail)
    · refine Comes1.ret rfl (retB ?_)
      rw [deepB_eq]; rcases h with h | h <;> simp [h]
    · refine Tri.loopS (α := Nat) (fun i => ⟨[(5, .t (tInt i)), (2, .ptr 0 0), (1, .t (tInt n))], Tryz.f32.ntmps, [(0, .obj [.t (.v (.int .i64 t.kind)), .t (.sl t.nn (t.names.map tStr)), .t (.sl t.nl (encTys t.l)), .t (.v (.int .i64 t.r))])], 0, 1⟩)
        (fun i => i ≤ t.l.length ∧ deepB t n = deepsB t.kind (t.l.drop i) n) (fun i => t.l.length - i) 0 ?_ ?_ ?_
      · refine ⟨Nat.zero_le _, ?_⟩
        rw [deepB_eq, h.2]; simp; omega
      · exact Sub.of rfl rfl ⟨rfl, rfl, rfl, trivial⟩ ⟨rfl, trivial⟩
      · rintro i ⟨hi, hd⟩
        repeat' (first | refine Tri.seq ?_ | refine Tri.reg ?_ | refine TriL.nil ?_ | (apply U.moveT; rfl; trivial; rfl) | (apply U.assignT; rfl; trivial; rfl) | (apply U.load; rfl; rfl; trivial; rfl; rfl; rfl) | (apply U.fld; rfl; trivial; rfl; infer_instance; decide; rfl) | (apply U.bin; rfl; trivial; rfl; trivial; rfl; rfl) | (apply U.len; rfl; trivial; rfl) | (apply U.pickb; rfl; trivial; rfl; (first | trivial | exact id | exact And.right | exact gvA | exact gvB | exact And.left | exact gvN | exact gvP2 | exact gvN2 | exact gvLA); rfl; (first | trivial | exact id | exact And.right | exact gvA | exact gvB | exact And.left | exact gvN | exact gvP2 | exact gvN2 | exact gvLA); rfl) | (apply G.moveT; rfl; (first | trivial | exact id | exact And.right | exact gvA | exact gvB | exact And.left | exact gvN | exact gvP2 | exact gvN2 | exact gvLA); rfl; rfl; rfl) | (apply G.load; rfl; rfl; (first | trivial | exact id | exact And.right | exact gvA | exact gvB | exact And.left | exact gvN | exact gvP2 | exact gvN2 | exact gvLA); rfl; rfl; rfl; rfl; rfl) | (apply G.fld; rfl; (first | trivial | exact id | exact And.right | exact gvA | exact gvB | exact And.left | exact gvN | exact gvP2 | exact gvN2 | exact gvLA); rfl; infer_instance; decide; rfl; rfl; rfl) | (apply G.bin; rfl; (first | trivial | exact id | exact And.right | exact gvA | exact gvB | exact And.left | exact gvN | exact gvP2 | exact gvN2 | exact gvLA); rfl; (first | trivial | exact id | exact And.right | exact gvA | exact gvB | exact And.left | exact gvN | exact gvP2 | exact gvN2 | exact gvLA); rfl; rfl; rfl; rfl) | refine Tri.skip ?_ | refine Tri.block ?_ | refine Tri.exit ?_ | refine Tri.ret ?_ | (refine Tri.cond rfl (fun h => ?_) (fun h => ?_) <;> (try simp at h) <;> (try contradiction)) | fail)
        · have hlt : i < t.l.length := by omega
          have hget := get_ty hlt
          have hstep := deepsB_step t.kind t.l n i hlt
          have hnone := none_p t.l[i]
          have hdeep := ih t.l[i] (n + 1) (by have := size_get hlt t rfl; omega) (smalls_get (small_ls hs) (List.getElem?_eq_getElem hlt)) (by omega) (by omega)
          rw [encTy_eta] at hnone hdeep
          repeat' (first | refine Tri.seq ?_ | refine Tri.reg ?_ | refine TriL.nil ?_ | (apply U.moveT; rfl; trivial; rfl) | (apply U.assignT; rfl; trivial; rfl) | (apply U.load; rfl; rfl; trivial; rfl; rfl; rfl) | (apply U.fld; rfl; trivial; rfl; infer_instance; decide; rfl) | (apply U.add; rfl; trivial; rfl; trivial; exact fun _ => wrap_i64 (by omega) (by omega); rfl) | (apply U.loadES; rfl; rfl; trivial; rfl; rfl; rfl) | (apply U.not; rfl; trivial; rfl) | (apply U.pickb; rfl; trivial; rfl; (first | trivial | exact id | exact And.right | exact gvA | exact gvB | exact And.left | exact gvN | exact gvP2 | exact gvN2 | exact gvLA); rfl; (first | trivial | exact id | exact And.right | exact gvA | exact gvB | exact And.left | exact gvN | exact gvP2 | exact gvN2 | exact gvLA); rfl) | (apply U.idx; rfl; trivial; rfl; trivial; exact fun _ => (by omega); exact fun _ => (by assumption); exact fun _ => rfl; rfl) | (apply G.loadES; rfl; rfl; (first | trivial | exact id | exact And.right | exact gvA | exact gvB | exact And.left | exact gvN | exact gvP2 | exact gvN2 | exact gvLA); rfl; rfl; rfl; rfl; rfl) | (apply G.idx; rfl; (first | trivial | exact id | exact And.right | exact gvA | exact gvB | exact And.left | exact gvN | exact gvP2 | exact gvN2 | exact gvLA); rfl; (first | trivial | exact id | exact And.right | exact gvA | exact gvB | exact And.left | exact gvN | exact gvP2 | exact gvN2 | exact gvLA); exact fun _ => (by omega); exact fun _ => (by assumption); exact fun _ => rfl; rfl; rfl; rfl) | refine U.call2 rfl rfl rfl (by assumption) rfl ?_ | refine G.call1 rfl rfl (by (first | trivial | exact id | exact And.right | exact gvA | exact gvB | exact And.left | exact gvN | exact gvP2 | exact gvN2 | exact gvLA)) (by first | assumption | exact fun _ => by assumption) rfl rfl rfl ?_ | refine Tri.skip ?_ | refine Tri.exit ?_ | refine Tri.ret ?_ | (refine Tri.cond rfl (fun h => ?_) (fun h => ?_) <;> (try simp at h) <;> (try contradiction)) | fail)
          · refine ⟨i + 1, ⟨by omega, ?_⟩, by omega, Sub.of rfl rfl ⟨rfl, rfl, rfl, trivial⟩ ⟨rfl, trivial⟩⟩
            rw [hd, hstep]; simp [h]
          · refine Comes1.ret rfl (retB ?_)
            rw [hd, hstep, h]
            cases hc : decide (t.kind = 15 ∨ t.kind = 18) <;> simp at hc <;> simp [*]
          · refine ⟨i + 1, ⟨by omega, ?_⟩, by omega, Sub.of rfl rfl ⟨rfl, rfl, rfl, trivial⟩ ⟨rfl, trivial⟩⟩
            rw [hd, hstep, h]; simp
        · refine Comes1.ret rfl (retB ?_)
          have : i = t.l.length := by omega
          subst this
          rw [hd, List.drop_length, deepsB]
end Go.Proofs.YtmhbibfkhbaclaaGreatDoor

/- Layer 13: parts, May. -/
namespace Go.Proofs.YtmhbibfkhbaclaaGreatDoor
open Go E
set_option maxRecDepth 100000
set_option maxHeartbeats 4000000
set_option linter.unusedVariables false
set_option linter.unusedSimpArgs false
attribute [local irreducible] Tri TriL TriO PO VO E.Pure DOb
mutual
def partsN : Ty → Int
  | .mk _ _ _ _ l _ => partsGo 1 l
def partsGo : Int → List Ty → Int
  | n, [] => n
  | n, t :: ts => if n ≤ 500 then partsGo (if t.kind ≠ 0 then n + partsN t else n) ts else n
end
mutual
def dep : Ty → Int
  | .mk _ _ _ _ l _ => 1 + deps l
def deps : List Ty → Int
  | [] => 0
  | t :: ts => max (dep t) (deps ts)
end
mutual
theorem dep_pos : ∀ t : Ty, 1 ≤ dep t
  | .mk _ _ _ _ l _ => by have := deps_pos l; simp only [dep]; omega
theorem deps_pos : ∀ l : List Ty, 0 ≤ deps l
  | [] => by simp [deps]
  | t :: ts => by have := dep_pos t; have := deps_pos ts; simp only [deps]; omega
end
mutual
theorem partsN_le : ∀ t : Ty, 1 ≤ partsN t ∧ partsN t ≤ 500 * dep t + 1
  | .mk _ _ _ _ l _ => by have := partsGo_le 1 l; have := deps_pos l; simp only [partsN, dep]; omega
theorem partsGo_le : ∀ (n : Int) (l : List Ty), n ≤ partsGo n l ∧ partsGo n l ≤ max n (501 + 500 * deps l)
  | n, [] => by simp only [partsGo]; omega
  | n, t :: ts => by
    have h1 := partsN_le t
    have h2 := dep_pos t
    have h3 := deps_pos ts
    simp only [partsGo, deps]
    split
    · split
      · have := partsGo_le (n + partsN t) ts; omega
      · have := partsGo_le n ts; omega
    · omega
end
theorem partsN_eq (t : Ty) : partsN t = partsGo 1 t.l := by cases t; rfl
theorem dep_eq (t : Ty) : dep t = 1 + deps t.l := by cases t; rfl
theorem deps_get : ∀ {l : List Ty} {i : Nat} (h : i < l.length), dep l[i] ≤ deps l
  | t :: ts, 0, h => by simp only [deps, List.getElem_cons_zero]; omega
  | t :: ts, i + 1, h => by have := deps_get (l := ts) (i := i) (by simpa using h); simp only [deps, List.getElem_cons_succ]; omega
theorem partsGo_step {n : Int} {l : List Ty} {i : Nat} (h : i < l.length) (hn : n ≤ 500) : partsGo n (l.drop i) = partsGo (if l[i].kind ≠ 0 then n + partsN l[i] else n) (l.drop (i + 1)) := by
  rw [List.drop_eq_getElem_cons h, partsGo, if_pos hn]
theorem partsGo_far {n : Int} {l : List Ty} (hn : ¬ n ≤ 500) : partsGo n l = n := by
  cases l with
  | nil => rfl
  | cons t ts => rw [partsGo, if_neg hn]
theorem parts_p : ∀ (m : Nat) (t : Ty), SizeOf.sizeOf t ≤ m → small t → dep t ≤ 1000 → E.Pure Tryz.prog 33 [encTy t] (.one (.t (tInt (partsN t)))) := by
  intro m
  induction m with
  | zero => intro t hm; cases t; simp at hm
  | succ m ih =>
    intro t hm hs hd
    have hb2 := small_l hs
    unfold big at hb2
    have hlen := encTys_length t.l
    refine Pure.of1 Tryz.func33 rfl rfl (Nat.le_of_ble_eq_true rfl) rfl ?_
    rw [encTy_eta]
    repeat' (first | refine Tri.seq ?_ | refine Tri.reg ?_ | refine TriL.nil ?_ | (apply U.assignT; rfl; trivial; rfl) | (apply U.boxA; rfl; rfl) | refine Tri.block ?_ | fail)
    refine Tri.loopS (α := Nat × Int) (fun a => ⟨[(4, .t (tInt a.1)), (3, .t (tInt a.2)), (2, .t (tInt 0)), (1, .ptr 0 0)], Tryz.f33.ntmps, [(0, .obj [.t (.v (.int .i64 t.kind)), .t (.sl t.nn (t.names.map tStr)), .t (.sl t.nl (encTys t.l)), .t (.v (.int .i64 t.r))])], 0, 1⟩)
        (fun a => a.1 ≤ t.l.length ∧ partsN t = partsGo a.2 (t.l.drop a.1) ∧ 1 ≤ a.2 ∧ a.2 ≤ 1000000) (fun a => t.l.length - a.1) (0, 1) ?_ ?_ ?_
    · exact ⟨Nat.zero_le _, partsN_eq t, by simp, by simp⟩
    · exact Sub.of rfl rfl ⟨rfl, rfl, rfl, rfl, trivial⟩ ⟨rfl, trivial⟩
    · rintro ⟨i, n⟩ ⟨hi, hp, hn1, hn2⟩
      dsimp only at hi hp hn1 hn2 ⊢
      repeat' (first | refine Tri.seq ?_ | refine Tri.reg ?_ | refine TriL.nil ?_ | (apply U.moveT; rfl; trivial; rfl) | (apply U.assignT; rfl; trivial; rfl) | (apply U.load; rfl; rfl; trivial; rfl; rfl; rfl) | (apply U.fld; rfl; trivial; rfl; infer_instance; decide; rfl) | (apply U.bin; rfl; trivial; rfl; trivial; rfl; rfl) | (apply U.len; rfl; trivial; rfl) | (apply U.pickb; rfl; trivial; rfl; (first | trivial | exact id | exact And.right | exact gvA | exact gvB | exact And.left | exact gvN | exact gvP2 | exact gvN2 | exact gvLA); rfl; (first | trivial | exact id | exact And.right | exact gvA | exact gvB | exact And.left | exact gvN | exact gvP2 | exact gvN2 | exact gvLA); rfl) | (apply G.moveT; rfl; (first | trivial | exact id | exact And.right | exact gvA | exact gvB | exact And.left | exact gvN | exact gvP2 | exact gvN2 | exact gvLA); rfl; rfl; rfl) | (apply G.bin; rfl; (first | trivial | exact id | exact And.right | exact gvA | exact gvB | exact And.left | exact gvN | exact gvP2 | exact gvN2 | exact gvLA); rfl; (first | trivial | exact id | exact And.right | exact gvA | exact gvB | exact And.left | exact gvN | exact gvP2 | exact gvN2 | exact gvLA); rfl; rfl; rfl; rfl) | refine Tri.skip ?_ | refine Tri.block ?_ | refine Tri.exit ?_ | refine Tri.ret ?_ | (refine Tri.cond rfl (fun h => ?_) (fun h => ?_) <;> (try simp at h) <;> (try contradiction)) | fail)
      · have hlt : i < t.l.length := by omega
        have hget := get_ty hlt
        have hstep := partsGo_step hlt h.2
        have hdep := deps_get hlt
        have hdt := dep_eq t
        have hpb := partsN_le t.l[i]
        have hparts := ih t.l[i] (by have := size_get hlt t rfl; omega) (smalls_get (small_ls hs) (List.getElem?_eq_getElem hlt)) (by omega)
        rw [encTy_eta] at hparts
        have hpb2 : partsN t.l[i] ≤ 600000 := by omega
        repeat' (first | refine Tri.reg ?_ | refine TriL.nil ?_ | (apply U.moveT; rfl; trivial; rfl) | (apply U.assignT; rfl; trivial; rfl) | (apply U.load; rfl; rfl; trivial; rfl; rfl; rfl) | (apply U.fld; rfl; trivial; rfl; infer_instance; decide; rfl) | (apply U.add; rfl; trivial; rfl; trivial; exact fun _ => wrap_i64 (by omega) (by omega); rfl) | (apply U.bin; rfl; trivial; rfl; trivial; rfl; rfl) | (apply U.loadE; rfl; rfl; trivial; rfl; rfl) | (apply U.loadES; rfl; rfl; trivial; rfl; rfl; rfl) | (apply U.fldE; rfl; trivial; rfl; infer_instance; decide; rfl) | (apply U.idx; rfl; trivial; rfl; trivial; exact fun _ => (by omega); exact fun _ => (by assumption); exact fun _ => rfl; rfl) | refine U.call1 rfl rfl (by assumption) rfl ?_ | refine Tri.skip ?_ | (refine Tri.cond rfl (fun h => ?_) (fun h => ?_) <;> (try simp at h) <;> (try contradiction)) | fail)
        · refine ⟨(i + 1, n + partsN t.l[i]), ⟨by dsimp only; omega, ?_, by dsimp only; omega, by dsimp only; omega⟩, by dsimp only; omega, Sub.of rfl rfl ⟨rfl, rfl, rfl, rfl, trivial⟩ ⟨rfl, trivial⟩⟩
          rw [hp, hstep, if_pos h]
        · refine ⟨(i + 1, n), ⟨by dsimp only; omega, ?_, hn1, hn2⟩, by dsimp only; omega, Sub.of rfl rfl ⟨rfl, rfl, rfl, rfl, trivial⟩ ⟨rfl, trivial⟩⟩
          rw [hp, hstep, if_neg (by simpa using h)]
      · refine Comes1.ret rfl ?_
        by_cases hn : n ≤ 500
        · have : i = t.l.length := by omega
          subst this
          rw [hp, List.drop_length, partsGo]
        · rw [hp, partsGo_far hn]
theorem noneT_dep {t : Ty} (h : noneT t = true) : dep t = 1 := by
  have h1 : t.l = [] := by simp [noneT] at h; exact h.2
  rw [dep_eq, h1]; rfl
mutual
theorem deepB_dep : ∀ (t : Ty) (n : Int), deepB t n = true → dep t + n ≤ 17
  | .mk k nn ns nl l r, n, h => by
    simp only [deepB, Bool.and_eq_true, Bool.not_eq_true', decide_eq_false_iff_not] at h
    have := deepsB_dep k l n h.2 (by omega)
    simp only [dep]; omega
theorem deepsB_dep (k : Int) : ∀ (l : List Ty) (n : Int), deepsB k l n = true → n < 16 → deps l + n ≤ 16
  | [], n, _, hn => by simp only [deps]; omega
  | t :: ts, n, h, hn => by
    simp only [deepsB, Bool.and_eq_true, Bool.or_eq_true] at h
    have h1 := deepsB_dep k ts n h.2 hn
    simp only [deps]
    rcases h.1 with h2 | h2
    · have := noneT_dep h2.2; omega
    · have := deepB_dep t (n + 1) h2; omega
end
def mayB (t : Ty) : Bool := deepB t 0 && decide (partsN t ≤ 500)
theorem may_p (t : Ty) (hs : small t) : E.Pure Tryz.prog 21 [encTy t] (.one (.t (tBool (mayB t)))) := by
  have h1 := deep_p _ t 0 (Nat.le_refl _) hs (by omega) (by omega)
  have h2 : deepB t 0 = true → E.Pure Tryz.prog 33 [encTy t] (.one (.t (tInt (partsN t)))) := fun h => parts_p _ t (Nat.le_refl _) hs (by have := deepB_dep t 0 h; omega)
  refine Pure.of1 Tryz.func21 rfl rfl (Nat.le_of_ble_eq_true rfl) rfl ?_
  rw [encTy_eta] at *
  repeat' (first | refine Tri.seq ?_ | refine Tri.reg ?_ | refine TriL.nil ?_ | (apply U.moveT; rfl; trivial; rfl) | (apply U.assignT; rfl; trivial; rfl) | (apply U.loadS; rfl; rfl; trivial; rfl; rfl; rfl; rfl; rfl) | (apply U.pickb; rfl; trivial; rfl; (first | trivial | exact id | exact And.right | exact gvA | exact gvB | exact And.left | exact gvN | exact gvP2 | exact gvN2 | exact gvLA); rfl; (first | trivial | exact id | exact And.right | exact gvA | exact gvB | exact And.left | exact gvN | exact gvP2 | exact gvN2 | exact gvLA); rfl) | (apply U.boxA; rfl; rfl) | (apply G.bin; rfl; (first | trivial | exact id | exact And.right | exact gvA | exact gvB | exact And.left | exact gvN | exact gvP2 | exact gvN2 | exact gvLA); rfl; (first | trivial | exact id | exact And.right | exact gvA | exact gvB | exact And.left | exact gvN | exact gvP2 | exact gvN2 | exact gvLA); rfl; rfl; rfl; rfl) | (apply G.loadS; rfl; rfl; (first | trivial | exact id | exact And.right | exact gvA | exact gvB | exact And.left | exact gvN | exact gvP2 | exact gvN2 | exact gvLA); rfl; rfl; rfl; rfl; rfl; rfl; rfl) | refine U.call2 rfl rfl rfl (by assumption) rfl ?_ | refine G.call1 rfl rfl (by (first | trivial | exact id | exact And.right | exact gvA | exact gvB | exact And.left | exact gvN | exact gvP2 | exact gvN2 | exact gvLA)) (by first | assumption | exact fun _ => by assumption) rfl rfl rfl ?_ | refine Tri.ret ?_ | fail)
  all_goals (refine Comes1.ret rfl (retB ?_); rw [Bool.eq_iff_iff]; simp [mayB])
end Go.Proofs.YtmhbibfkhbaclaaGreatDoor

/- Layer 13: MaySig. -/
namespace Go.Proofs.YtmhbibfkhbaclaaGreatDoor
open Go E
set_option maxRecDepth 100000
set_option maxHeartbeats 4000000
set_option linter.unusedVariables false
set_option linter.unusedSimpArgs false
attribute [local irreducible] Tri TriL TriO PO VO E.Pure DOb
structure smallSg (s : Sg) : Prop where
  p : s.p.length ≤ big
  ps : ∀ x, x ∈ s.p → x.size ≤ big
  t : s.t.length ≤ big
  ts : smalls s.t
  r : small s.r
end Go.Proofs.YtmhbibfkhbaclaaGreatDoor
