/- Layers 11, 13: the reference's names, own, deep, parts, May. -/
import Derived.Test.YtaplmmhkpljmkaaDoorC1
namespace Go.Proofs.YtaplmmhkpljmkaaDoor
open Go E
set_option maxRecDepth 100000
set_option maxHeartbeats 4000000
set_option linter.unusedVariables false
set_option linter.unusedSimpArgs false
attribute [local irreducible] Tri TriL TriO PO VO E.Pure DOb
def inB (s : ByteArray) (l : List ByteArray) : Bool := l.any fun x => decide (x = s)
theorem inB_append (s : ByteArray) (l m : List ByteArray) : inB s (l ++ m) = (inB s l || inB s m) := by simp [inB]
/-- Names, behind others: all are, and differ. -/
def namesGo : List ByteArray → List ByteArray → Bool
  | _, [] => true
  | seen, s :: t => nameOk s && !inB s seen && namesGo (seen ++ [s]) t
def namesB (l : List ByteArray) (most : Int) : Bool := namesGo [] l && decide (1 ≤ (l.length : Int)) && decide ((l.length : Int) ≤ most)
theorem get_str {l : List ByteArray} {i : Nat} (h : i < l.length) : (l.map tStr)[((i : Nat) : Int).toNat]? = some (tStr l[i]) := by
  rw [Int.toNat_natCast, List.getElem?_map, List.getElem?_eq_getElem h]; rfl
theorem namesGo_step {l : List ByteArray} {i : Nat} (h : i < l.length) : namesGo (l.take i) (l.drop i) = (nameOk l[i] && !inB l[i] (l.take i) && namesGo (l.take (i + 1)) (l.drop (i + 1))) := by
  rw [List.drop_eq_getElem_cons h, namesGo, List.take_succ_eq_append_getElem h]
theorem names_p (l : List ByteArray) (nn : Bool) (most : Int) (hb : l.length ≤ big) : E.Pure Tryd.prog 46 [.sl nn (l.map tStr), tInt most] (.one (.t (tBool (namesB l most)))) := by
  unfold big at hb
  refine Pure.of1 Tryd.func46 rfl rfl (Nat.le_of_ble_eq_true rfl) rfl ?_
  repeat' (first | refine Tri.seq ?_ | refine Tri.reg ?_ | refine TriL.nil ?_ | (apply U.assignT; rfl; trivial; rfl) | refine Tri.block ?_ | fail)
  refine Tri.loopS (α := Nat) (fun i => ⟨[(5, .t (tInt i)), (0, .t (.sl nn (l.map tStr))), (1, .t (tInt most))], Tryd.f46.ntmps, [], 0, 0⟩)
      (fun i => i ≤ l.length ∧ namesGo [] l = namesGo (l.take i) (l.drop i)) (fun i => l.length - i) 0 ?_ ?_ ?_
  · exact ⟨Nat.zero_le _, rfl⟩
  · exact Sub.of rfl rfl ⟨rfl, rfl, rfl, trivial⟩ trivial
  · rintro i ⟨hi, hn⟩
    have hlen : (l.map tStr).length = l.length := by simp
    repeat' (first | refine Tri.seq ?_ | refine Tri.reg ?_ | refine TriL.nil ?_ | (apply U.moveT; rfl; trivial; rfl) | (apply U.assignT; rfl; trivial; rfl) | (apply U.bin; rfl; trivial; rfl; trivial; rfl; rfl) | (apply U.len; rfl; trivial; rfl) | (apply U.pickb; rfl; trivial; rfl; (first | trivial | exact id | exact And.right | exact gvA | exact gvB | exact And.left | exact gvN | exact gvP2 | exact gvN2 | exact gvLA); rfl; (first | trivial | exact id | exact And.right | exact gvA | exact gvB | exact And.left | exact gvN | exact gvP2 | exact gvN2 | exact gvLA); rfl) | (apply G.moveT; rfl; (first | trivial | exact id | exact And.right | exact gvA | exact gvB | exact And.left | exact gvN | exact gvP2 | exact gvN2 | exact gvLA); rfl; rfl; rfl) | (apply G.bin; rfl; (first | trivial | exact id | exact And.right | exact gvA | exact gvB | exact And.left | exact gvN | exact gvP2 | exact gvN2 | exact gvLA); rfl; (first | trivial | exact id | exact And.right | exact gvA | exact gvB | exact And.left | exact gvN | exact gvP2 | exact gvN2 | exact gvLA); rfl; rfl; rfl; rfl) | (apply G.len; rfl; (first | trivial | exact id | exact And.right | exact gvA | exact gvB | exact And.left | exact gvN | exact gvP2 | exact gvN2 | exact gvLA); rfl; rfl; rfl) | refine Tri.skip ?_ | refine Tri.block ?_ | refine Tri.exit ?_ | refine Tri.ret ?_ | (refine Tri.cond rfl (fun h => ?_) (fun h => ?_) <;> (try simp at h) <;> (try contradiction)) | fail)
    · have hlt : i < l.length := by omega
      have hget := get_str hlt
      have hstep := namesGo_step hlt
      repeat' (first | (apply U.loadE; rfl; rfl; trivial; rfl; rfl) | (apply U.idx; rfl; trivial; rfl; trivial; exact fun _ => (by omega); exact fun _ => (by assumption); exact fun _ => rfl; rfl) | fail)
      refine U.call1 rfl rfl (name_p _) rfl ?_
      repeat' (first | refine Tri.seq ?_ | refine Tri.reg ?_ | refine TriL.nil ?_ | (apply U.assignT; rfl; trivial; rfl) | (apply U.not; rfl; trivial; rfl) | refine Tri.skip ?_ | refine Tri.block ?_ | refine Tri.ret ?_ | (refine Tri.cond rfl (fun h => ?_) (fun h => ?_) <;> (try simp at h) <;> (try contradiction)) | fail)
      · refine Comes1.ret rfl ?_
        rw [namesB, hn, hstep]; simp [h, tBool]
      · refine Tri.loopS (α := Nat) (fun k => ⟨[(6, .t (tInt k)), (5, .t (tInt i)), (0, .t (.sl nn (l.map tStr))), (1, .t (tInt most))], Tryd.f46.ntmps, [], 0, 0⟩)
          (fun k => k ≤ i ∧ inB l[i] (l.take k) = false) (fun k => i - k) 0 ?_ ?_ ?_
        · exact ⟨Nat.zero_le _, rfl⟩
        · exact Sub.of rfl rfl ⟨rfl, rfl, rfl, rfl, trivial⟩ trivial
        · rintro k ⟨hk, hno⟩
          repeat' (first | refine Tri.seq ?_ | refine Tri.reg ?_ | refine TriL.nil ?_ | (apply U.moveT; rfl; trivial; rfl) | (apply U.assignT; rfl; trivial; rfl) | (apply U.add; rfl; trivial; rfl; trivial; exact fun _ => wrap_i64 (by omega) (by omega); rfl) | (apply U.bin; rfl; trivial; rfl; trivial; rfl; rfl) | refine Tri.skip ?_ | refine Tri.block ?_ | refine Tri.exit ?_ | (refine Tri.cond rfl (fun h => ?_) (fun h => ?_) <;> (try simp at h) <;> (try contradiction)) | fail)
          · have hkl : k < l.length := by omega
            have hgetk := get_str hkl
            refine Tri.regD [] mixed (by kernel_rfl) ?_
            repeat' (first | refine Tri.seq ?_ | refine Tri.reg ?_ | refine TriL.nil ?_ | exact ⟨rfl, rfl, rfl⟩ | (apply D.v; rfl; rfl; rfl) | refine D.nil ?_ | (apply U.moveT; rfl; trivial; rfl) | (apply U.assignT; rfl; trivial; rfl) | (apply U.add; rfl; trivial; rfl; trivial; exact fun _ => wrap_i64 (by omega) (by omega); rfl) | (apply U.bin; rfl; trivial; rfl; trivial; rfl; rfl) | (apply U.loadE; rfl; rfl; trivial; rfl; rfl) | (apply U.idx; rfl; trivial; rfl; trivial; exact fun _ => (by omega); exact fun _ => (by assumption); exact fun _ => rfl; rfl) | refine Tri.skip ?_ | refine Tri.ret ?_ | (refine Tri.cond rfl (fun h => ?_) (fun h => ?_) <;> (try simp at h) <;> (try contradiction)) | fail)
            · refine Comes1.ret rfl ?_
              have hin : inB l[i] (l.take i) = true := by
                simp only [inB, List.any_eq_true, decide_eq_true_eq]
                exact ⟨l[k], List.mem_take_iff_getElem.2 ⟨k, by omega, rfl⟩, h⟩
              rw [namesB, hn, hstep, hin]; simp [tBool]
            · refine ⟨k + 1, ⟨by omega, ?_⟩, by omega, Sub.of rfl rfl ⟨rfl, rfl, rfl, rfl, trivial⟩ trivial⟩
              rw [List.take_succ_eq_append_getElem hkl, inB_append, hno]; simp [inB, h]
          · have hki : k = i := by omega
            subst hki
            refine ⟨k + 1, ⟨by omega, ?_⟩, by omega, Sub.of rfl rfl ⟨rfl, rfl, rfl, trivial⟩ trivial⟩
            rw [hn, hstep, show nameOk l[k] = true by assumption, hno]; simp
    · refine Comes1.ret rfl ?_
      have : i = l.length := by omega
      subst this
      rw [List.drop_length, namesGo] at hn
      rw [namesB, hn]; simp [tBool]
end Go.Proofs.YtaplmmhkpljmkaaDoor
