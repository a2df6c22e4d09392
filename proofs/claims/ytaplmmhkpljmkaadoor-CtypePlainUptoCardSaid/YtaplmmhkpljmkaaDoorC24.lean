/- Layer 13: the reference's digits, next, Aligned. -/
import Derived.Test.YtaplmmhkpljmkaaDoorC23
namespace Go.Proofs.YtaplmmhkpljmkaaDoor
open Go E
set_option maxRecDepth 100000
set_option maxHeartbeats 4000000
set_option linter.unusedVariables false
set_option linter.unusedSimpArgs false
attribute [local irreducible] Tri TriL TriO PO VO E.Pure DOb
theorem dig1i : ∀ n : Nat, n < 10 → IntKind.u8.wrap (48 + (n : Int)) = ((UInt8.ofNat (48 + n)).toNat : Int) := by decide +kernel
theorem dig2i : ∀ n : Nat, n < 100 → IntKind.u8.wrap (48 + (n : Int).tmod 10) = ((UInt8.ofNat (48 + n % 10)).toNat : Int) := by decide +kernel
theorem dig1 (n : Nat) (h : n < 10) : [T.v (.int .u8 (IntKind.u8.wrap (48 + (n : Int))))] = [UInt8.ofNat (48 + n)].map tByte := by rw [dig1i n h]; rfl
theorem dig2 (n : Nat) (h : n < 100) : [T.v (.int .u8 (IntKind.u8.wrap (48 + (n : Int).tmod 10)))] = [UInt8.ofNat (48 + n % 10)].map tByte := by rw [dig2i n h]; rfl
theorem dig3 : ∀ n : Nat, n < 100 → ¬ n < 10 → (digT (n / 10) ++ ⟨[UInt8.ofNat (48 + n % 10)].toArray⟩ : ByteArray) = digT n := by
  intro n h h2
  have h3 : n / 10 < 10 := by omega
  rw [digT, digT, if_pos h3, if_neg h2]; rfl
theorem digits_p (n : Nat) (h100 : n < 100) : E.Pure Tryd.prog 38 [tInt n] (.one (.t (tStr (digT n)))) := by
  have small : ∀ n : Nat, n < 10 → E.Pure Tryd.prog 38 [tInt n] (.one (.t (tStr (digT n)))) := fun n h10 => by
    refine Pure.of1 Tryd.func38 rfl rfl (Nat.le_of_ble_eq_true rfl) rfl ?_
    repeat' (first | refine Tri.seq ?_ | refine Tri.reg ?_ | refine TriL.nil ?_ | (apply U.moveT; rfl; trivial; rfl) | (apply U.assignT; rfl; trivial; rfl) | (apply U.add; rfl; trivial; rfl; trivial; exact fun _ => wrap_i64 (by omega) (by omega); rfl) | (apply U.bin; rfl; trivial; rfl; trivial; rfl; rfl) | (apply U.conv; rfl; trivial; rfl; rfl) | refine Tri.skip ?_ | (refine Tri.cond rfl (fun h => ?_) (fun h => ?_) <;> (try simp at h) <;> (try contradiction)) | fail)
    · (apply U.litT; rfl; rfl; rfl; rfl; rfl; rfl; rfl; rfl)
      skip
      refine U.b2s rfl trivial (dig1 n h10) rfl ?_
      repeat' (first | refine TriL.nil ?_ | (apply U.assignT; rfl; trivial; rfl) | refine Tri.ret ?_ | fail)
      refine Comes1.ret rfl ?_
      rw [digT, if_pos h10]; rfl
    · exfalso; omega
  by_cases h2 : n < 10
  · exact small n h2
  have hr := small (n / 10) (by omega)
  have hq : IntKind.i64.wrap ((n : Int).tdiv 10) = ((n / 10 : Nat) : Int) := by
    rw [Int.tdiv_eq_ediv_of_nonneg (by omega), wrap_i64 (by omega) (by omega)]; omega
  have ht : 0 ≤ (n : Int).tmod 10 ∧ (n : Int).tmod 10 < 10 := by rw [Int.tmod_eq_emod_of_nonneg (by omega)]; omega
  refine Pure.of1 Tryd.func38 rfl rfl (Nat.le_of_ble_eq_true rfl) rfl ?_
  repeat' (first | refine Tri.seq ?_ | refine Tri.reg ?_ | refine TriL.nil ?_ | (apply U.moveT; rfl; trivial; rfl) | (apply U.assignT; rfl; trivial; rfl) | (apply U.add; rfl; trivial; rfl; trivial; exact fun _ => wrap_i64 (by omega) (by omega); rfl) | (apply U.bin; rfl; trivial; rfl; trivial; rfl; rfl) | (apply U.conv; rfl; trivial; rfl; rfl) | refine Tri.skip ?_ | (refine Tri.cond rfl (fun h => ?_) (fun h => ?_) <;> (try simp at h) <;> (try contradiction)) | fail)
  · exfalso; omega
  refine Tri.regD [] mixed (by kernel_rfl) ?_
  repeat' (first | refine TriL.nil ?_ | exact ⟨rfl, rfl, rfl⟩ | (apply D.v; rfl; rfl; rfl) | refine D.nil ?_ | (apply U.moveT; rfl; trivial; rfl) | (apply U.add; rfl; trivial; rfl; trivial; exact fun _ => wrap_i64 (by omega) (by omega); rfl) | (apply U.quo; rfl; trivial; rfl; trivial; exact fun _ => (by omega); exact fun _ => (by assumption); rfl) | (apply U.rem; rfl; trivial; rfl; trivial; exact fun _ => (by omega); rfl) | (apply U.conv; rfl; trivial; rfl; rfl) | refine U.call1 rfl rfl (by assumption) rfl ?_ | refine Tri.ret ?_ | fail)
  · (apply U.litT; rfl; rfl; rfl; rfl; rfl; rfl; rfl; rfl)
    repeat' (first | refine TriL.nil ?_ | exact ⟨rfl, rfl, rfl⟩ | fail)
  skip
  · refine U.b2s rfl trivial (dig2 n h100) rfl ?_
    repeat' (first | refine TriL.nil ?_ | exact ⟨rfl, rfl, rfl⟩ | fail)
  skip
  · refine U.cat rfl trivial rfl trivial (fun _ => ?_) rfl ?_
    · simp [digT]; split <;> simp [ByteArray.size]
    repeat' (first | refine TriL.nil ?_ | exact ⟨rfl, rfl, rfl⟩ | fail)
  repeat' (first | refine TriL.nil ?_ | exact ⟨rfl, rfl, rfl⟩ | (apply U.assignT; rfl; trivial; rfl) | fail)
  refine Comes1.ret rfl ?_
  rw [dig3 n h100 h2]; rfl
theorem upN_mul {n k : Int} (h : P2 k) (h0 : 0 ≤ n) (hm : n.tmod k = 0) : upN n k = n := by
  rw [Int.tmod_eq_emod_of_nonneg h0] at hm
  unfold upN
  rcases h with rfl | rfl | rfl | rfl <;> omega
theorem upN_succ {n k : Int} (h : P2 k) (h0 : 0 ≤ n) (hm : n.tmod k ≠ 0) : upN (n + 1) k = upN n k := by
  rw [Int.tmod_eq_emod_of_nonneg h0] at hm
  unfold upN
  rcases h with rfl | rfl | rfl | rfl <;> omega
theorem next_p (n k : Int) (h : 0 ≤ n) (hk : P2 k) (h1 : n ≤ 1000000) : E.Pure Tryd.prog 40 [tInt n, tInt k] (.one (.t (tInt (upN n k)))) := by
  have hp := hk.pos
  have hb := upN_bd h hk
  refine Pure.of1 Tryd.func40 rfl rfl (Nat.le_of_ble_eq_true rfl) rfl ?_
  repeat' (first | refine Tri.seq ?_ | refine Tri.reg ?_ | refine TriL.nil ?_ | (apply U.assignT; rfl; trivial; rfl) | refine Tri.block ?_ | fail)
  refine Tri.loopS (α := Int) (fun i => ⟨[(0, .t (tInt i)), (1, .t (tInt k))], Tryd.f40.ntmps, [], 0, 0⟩)
      (fun i => n ≤ i ∧ i ≤ upN n k ∧ upN i k = upN n k) (fun i => (upN n k - i).toNat) n ?_ ?_ ?_
  · exact ⟨Int.le_refl _, by omega, rfl⟩
  · exact Sub.of rfl rfl ⟨rfl, rfl, trivial⟩ trivial
  · rintro i ⟨hi, hu, he⟩
    repeat' (first | refine Tri.seq ?_ | refine Tri.reg ?_ | refine TriL.nil ?_ | (apply U.moveT; rfl; trivial; rfl) | (apply U.assignT; rfl; trivial; rfl) | (apply U.add; rfl; trivial; rfl; trivial; exact fun _ => wrap_i64 (by omega) (by omega); rfl) | (apply U.rem; rfl; trivial; rfl; trivial; exact fun _ => (by omega); rfl) | (apply U.bin; rfl; trivial; rfl; trivial; rfl; rfl) | refine Tri.skip ?_ | refine Tri.block ?_ | refine Tri.exit ?_ | refine Tri.ret ?_ | (refine Tri.cond rfl (fun h => ?_) (fun h => ?_) <;> (try simp at h) <;> (try contradiction)) | fail)
    · have hs := upN_succ (n := i) hk (by omega) h
      have hb2 := upN_bd (n := i + 1) (by omega) hk
      rw [hs, he] at hb2
      refine ⟨i + 1, ⟨by omega, by omega, by rw [hs, he]⟩, by omega, Sub.of rfl rfl ⟨rfl, rfl, trivial⟩ trivial⟩
    · refine Comes1.ret rfl ?_
      rw [← he, upN_mul hk (by omega) (by assumption)]
def alK (k : Int) (nn : Nat) (m : Int) : Int :=
  if ((k = 0 ∨ k = 1) ∨ k = 2) ∨ k = 3 ∨ (k = 19 ∧ nn ≤ 8) ∨ k = 16 then 1 else if k = 4 ∨ k = 5 ∨ (k = 19 ∧ nn ≤ 16) then 2 else if k = 8 ∨ k = 9 then 8 else if (6 ≤ k ∧ k ≤ 12) ∨ 19 ≤ k then 4 else m
mutual
/-- The reference's Aligned. -/
def alN : Ty → Int
  | .mk k _ ns _ l _ => alK k ns.length (alsN 1 l)
def alsN : Int → List Ty → Int
  | a, [] => a
  | a, t :: ts => alsN (max a (alN t)) ts
end
theorem alN_eq (t : Ty) : alN t = alK t.kind t.names.length (alsN 1 t.l) := by cases t; rfl
theorem aligned_p : ∀ (m : Nat) (t : Ty), SizeOf.sizeOf t ≤ m → small t → E.Pure Tryd.prog 18 [encTy t] (.one (.t (tInt (alN t)))) := by
  intro m
  induction m with
  | zero => intro t hm; cases t; simp at hm
  | succ m ih =>
    intro t hm hs
    have hn := small_names hs
    have hb2 := small_l hs
    unfold big at hb2 hn
    have hlen := encTys_length t.l
    have hlen2 : (t.names.map tStr).length = t.names.length := by simp
    refine Pure.of1 Tryd.func18 rfl rfl (Nat.le_of_ble_eq_true rfl) rfl ?_
    rw [encTy_eta]
    repeat' (first | refine Tri.seq ?_ | refine Tri.reg ?_ | refine TriL.nil ?_ | (apply U.moveT; rfl; trivial; rfl) | (apply U.assignT; rfl; trivial; rfl) | (apply U.load; rfl; rfl; trivial; rfl; rfl; rfl) | (apply U.fld; rfl; trivial; rfl; infer_instance; decide; rfl) | (apply U.bin; rfl; trivial; rfl; trivial; rfl; rfl) | (apply U.pickb; rfl; trivial; rfl; (first | trivial | exact id | exact And.right | exact gvA | exact gvB | exact And.left | exact gvN | exact gvP2 | exact gvN2 | exact gvLA); rfl; (first | trivial | exact id | exact And.right | exact gvA | exact gvB | exact And.left | exact gvN | exact gvP2 | exact gvN2 | exact gvLA); rfl) | (apply U.boxA; rfl; rfl) | (apply G.moveT; rfl; (first | trivial | exact id | exact And.right | exact gvA | exact gvB | exact And.left | exact gvN | exact gvP2 | exact gvN2 | exact gvLA); rfl; rfl; rfl) | (apply G.load; rfl; rfl; (first | trivial | exact id | exact And.right | exact gvA | exact gvB | exact And.left | exact gvN | exact gvP2 | exact gvN2 | exact gvLA); rfl; rfl; rfl; rfl; rfl) | (apply G.fld; rfl; (first | trivial | exact id | exact And.right | exact gvA | exact gvB | exact And.left | exact gvN | exact gvP2 | exact gvN2 | exact gvLA); rfl; infer_instance; decide; rfl; rfl; rfl) | (apply G.bin; rfl; (first | trivial | exact id | exact And.right | exact gvA | exact gvB | exact And.left | exact gvN | exact gvP2 | exact gvN2 | exact gvLA); rfl; (first | trivial | exact id | exact And.right | exact gvA | exact gvB | exact And.left | exact gvN | exact gvP2 | exact gvN2 | exact gvLA); rfl; rfl; rfl; rfl) | (apply G.len; rfl; (first | trivial | exact id | exact And.right | exact gvA | exact gvB | exact And.left | exact gvN | exact gvP2 | exact gvN2 | exact gvLA); rfl; rfl; rfl) | (apply G.pickb; rfl; (first | trivial | exact id | exact And.right | exact gvA | exact gvB | exact And.left | exact gvN | exact gvP2 | exact gvN2 | exact gvLA); rfl; (first | trivial | exact id | exact And.right | exact gvA | exact gvB | exact And.left | exact gvN | exact gvP2 | exact gvN2 | exact gvLA); rfl; (first | trivial | exact id | exact And.right | exact gvA | exact gvB | exact And.left | exact gvN | exact gvP2 | exact gvN2 | exact gvLA); rfl; rfl; rfl) | refine Tri.skip ?_ | refine Tri.block ?_ | refine Tri.ret ?_ | (refine Tri.cond rfl (fun h => ?_) (fun h => ?_) <;> (try simp at h) <;> (try contradiction)) | fail)
    · refine Comes1.ret rfl ?_
      rw [alN_eq, alK, if_pos (by omega)]; rfl
    · refine Comes1.ret rfl ?_
      rw [alN_eq, alK, if_neg (by omega), if_pos (by omega)]; rfl
    · refine Comes1.ret rfl ?_
      rw [alN_eq, alK, if_neg (by omega), if_neg (by omega), if_pos (by omega)]; rfl
    · refine Comes1.ret rfl ?_
      rw [alN_eq, alK, if_neg (by omega), if_neg (by omega), if_neg (by omega), if_pos (by omega)]; rfl
    · have hk : alN t = alsN 1 t.l := by rw [alN_eq, alK, if_neg (by omega), if_neg (by omega), if_neg (by omega), if_neg (by omega)]
      refine Tri.loopS (α := Nat × Int) (fun a => ⟨[(5, .t (tInt a.1)), (4, .t (tInt a.2)), (1, .ptr 0 0)], Tryd.f18.ntmps, [(0, .obj [.t (.v (.int .i64 t.kind)), .t (.sl t.nn (t.names.map tStr)), .t (.sl t.nl (encTys t.l)), .t (.v (.int .i64 t.r))])], 0, 1⟩)
        (fun a => a.1 ≤ t.l.length ∧ alN t = alsN a.2 (t.l.drop a.1)) (fun a => t.l.length - a.1) (0, 1) ?_ ?_ ?_
      · exact ⟨Nat.zero_le _, hk⟩
      · exact Sub.of rfl rfl ⟨rfl, rfl, rfl, trivial⟩ ⟨rfl, trivial⟩
      · rintro ⟨i, a⟩ ⟨hi, hd⟩
        dsimp only at hi hd ⊢
        repeat' (first | refine Tri.seq ?_ | refine Tri.reg ?_ | refine TriL.nil ?_ | (apply U.moveT; rfl; trivial; rfl) | (apply U.assignT; rfl; trivial; rfl) | (apply U.load; rfl; rfl; trivial; rfl; rfl; rfl) | (apply U.fld; rfl; trivial; rfl; infer_instance; decide; rfl) | (apply U.bin; rfl; trivial; rfl; trivial; rfl; rfl) | (apply U.len; rfl; trivial; rfl) | refine Tri.skip ?_ | refine Tri.block ?_ | refine Tri.exit ?_ | refine Tri.ret ?_ | (refine Tri.cond rfl (fun h => ?_) (fun h => ?_) <;> (try simp at h) <;> (try contradiction)) | fail)
        · have hlt : i < t.l.length := by omega
          have hget := get_ty hlt
          have hal := ih t.l[i] (by have := size_get hlt t rfl; omega) (smalls_get (small_ls hs) (List.getElem?_eq_getElem hlt))
          rw [encTy_eta] at hal
          rw [List.drop_eq_getElem_cons hlt, alsN] at hd
          repeat' (first | refine Tri.reg ?_ | refine TriL.nil ?_ | (apply U.moveT; rfl; trivial; rfl) | (apply U.assignT; rfl; trivial; rfl) | (apply U.add; rfl; trivial; rfl; trivial; exact fun _ => wrap_i64 (by omega) (by omega); rfl) | (apply U.loadES; rfl; rfl; trivial; rfl; rfl; rfl) | (apply U.idx; rfl; trivial; rfl; trivial; exact fun _ => (by omega); exact fun _ => (by assumption); exact fun _ => rfl; rfl) | (apply U.max; rfl; trivial; rfl; trivial; rfl) | refine U.call1 rfl rfl (by assumption) rfl ?_ | fail)
          exact ⟨(i + 1, max a (alN t.l[i])), ⟨hlt, hd⟩, by dsimp only; omega, Sub.of rfl rfl ⟨rfl, rfl, rfl, trivial⟩ ⟨rfl, trivial⟩⟩
        · refine Comes1.ret rfl ?_
          have : i = t.l.length := by omega
          subst this
          rw [hd, List.drop_length, alsN]
end Go.Proofs.YtaplmmhkpljmkaaDoor
