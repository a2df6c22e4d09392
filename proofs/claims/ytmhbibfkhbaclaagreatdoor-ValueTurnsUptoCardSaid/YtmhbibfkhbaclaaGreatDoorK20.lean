/- Library calls that values need: math/bits.Mul, slices.Repeat. -/
import Derived.Test.YtmhbibfkhbaclaaGreatDoorK18
import Derived.Test.YtmhbibfkhbaclaaGreatDoorK19
import Derived.Shelf.Bits.Mul64
namespace Go.Proofs.YtmhbibfkhbaclaaGreatDoor
open Go E
set_option maxRecDepth 100000
set_option maxHeartbeats 4000000
set_option linter.unusedVariables false
set_option linter.unusedSimpArgs false
theorem mul64_w (x y : Nat) (hx : x < 18446744073709551616) (hy : y < 18446744073709551616) (w : World) :
    Calls Tryz.prog 80 #[.int .u64 x, .int .u64 y] w fun e w' => e = .returned (.tuple #[.int .u64 ((x * y / 18446744073709551616 : Nat) : Int), .int .u64 ((x * y % 18446744073709551616 : Nat) : Int)]) ∧ w' = w := by
  obtain ⟨bd, bt, bw, hhi⟩ := Lib.mul64_hi x y hx hy
  have ba := Lib.half_mul_le (a := x / 4294967296) (b := y / 4294967296) (by omega) (by omega)
  have bb := Lib.half_mul_le (a := x / 4294967296) (b := y % 4294967296) (by omega) (by omega)
  have bc := Lib.half_mul_le (a := x % 4294967296) (b := y / 4294967296) (by omega) (by omega)
  have ba' : x / 4294967296 * (y / 4294967296) < 18446744073709551616 := by omega
  have bb' : x / 4294967296 * (y % 4294967296) < 18446744073709551616 := by omega
  have bc' : x % 4294967296 * (y / 4294967296) < 18446744073709551616 := by omega
  have bh1 : x / 4294967296 * (y / 4294967296) + (x / 4294967296 * (y % 4294967296) + x % 4294967296 * (y % 4294967296) / 4294967296) / 4294967296 < 18446744073709551616 := by omega
  have bh : x / 4294967296 * (y / 4294967296) + (x / 4294967296 * (y % 4294967296) + x % 4294967296 * (y % 4294967296) / 4294967296) / 4294967296 + ((x / 4294967296 * (y % 4294967296) + x % 4294967296 * (y % 4294967296) / 4294967296) % 4294967296 + x % 4294967296 * (y / 4294967296)) / 4294967296 < 18446744073709551616 := by omega
  go_enter Tryz.func80, Tryz.ntmps80
  go_wp2
  simp only [Mul64.maskN x hx, Mul64.maskN y hy, Mul64.divN, Mul64.mulN, Mul64.addN, Mul64.wrapN _ bd, Mul64.wrapN _ bb', Mul64.wrapN _ bt, Mul64.maskN _ bt, Mul64.wrapN _ bc', Mul64.wrapN _ bw, Mul64.wrapN _ ba', Mul64.wrapN _ bh1, Mul64.wrapN _ bh, Mul64.wrapM (x * y)]
  rw [hhi]
  go_ret2
  exact ⟨rfl, rfl⟩
theorem tup_pure {P : Program} {f : FuncId} {x y a b : Value} (hx : sc x = true) (hy : sc y = true) (ha : sc a = true) (hb : sc b = true) (h : ∀ w : World, Calls P f #[x, y] w fun e w' => e = .returned (.tuple #[a, b]) ∧ w' = w) : E.Pure P f [.v x, .v y] (.tup [.t (.v a), .t (.v b)]) := by
  intro F vs w hF hn hv
  obtain ⟨u, v, rfl⟩ : ∃ u v, vs = #[u, v] := by
    have h2 : vs.size = 2 := hn.symm
    match vs, h2 with
    | ⟨[u, v]⟩, _ => exact ⟨u, v, rfl⟩
  obtain rfl : x = u := by have := hv 0 _ u rfl rfl; cases this; rfl
  obtain rfl : y = v := by have := hv 1 _ v rfl rfl; cases this; rfl
  refine (h w).mono ?_
  rintro e w' ⟨rfl, rfl⟩
  refine ⟨_, F, rfl, FMem.le_refl F, hF, fun a hx => absurd rfl hx, RowKit.Below.refl _ _, .tup (fun _ => none) rfl (fun i r v hr hv => ?_) (fun i j b _ h => by cases h) (fun i b h => by cases h)⟩
  match i, hr, hv with
  | 0, hr, hv => cases hr; cases hv; exact .t (.v ha)
  | 1, hr, hv => cases hr; cases hv; exact .t (.v hb)
  | i + 2, hr, hv => simp at hr
theorem mul64_p (x y : Nat) (hx : x < 18446744073709551616) (hy : y < 18446744073709551616) : E.Pure Tryz.prog 80 [.v (.int .u64 x), .v (.int .u64 y)] (.tup [.t (.v (.int .u64 ((x * y / 18446744073709551616 : Nat) : Int))), .t (.v (.int .u64 ((x * y % 18446744073709551616 : Nat) : Int)))]) :=
  tup_pure rfl rfl rfl rfl (mul64_w x y hx hy)
attribute [local irreducible] Tri TriL TriO PO VO E.Pure DOb XOb
theorem mul_p (x y : Nat) (hx : x < 18446744073709551616) (hy : y < 18446744073709551616) : E.Pure Tryz.prog 63 [.v (.int .u64 x), .v (.int .u64 y)] (.tup [.t (.v (.int .u64 ((x * y / 18446744073709551616 : Nat) : Int))), .t (.v (.int .u64 ((x * y % 18446744073709551616 : Nat) : Int)))]) := by
  have h1 := mul64_p x y hx hy
  refine Pure.of2 Tryz.func63 rfl rfl (Nat.le_of_ble_eq_true rfl) rfl ?_
  repeat' (first | refine Tri.seq ?_ | refine Tri.reg ?_ | refine TriL.nil ?_ | (apply U.moveT; rfl; trivial; rfl) | (apply U.assignT; rfl; trivial; rfl) | (apply U.moveU; rfl; trivial; rfl) | (apply U.ext; rfl; trivial; rfl; rfl) | refine Tri.skip ?_ | refine Tri.ret ?_ | refine U.callP2 rfl rfl rfl (by assumption) rfl ?_ | (refine Tri.cond rfl (fun h => ?_) (fun h => ?_) <;> (try simp at h) <;> (try contradiction)) | fail)
  exact Comes2.trees (.inr rfl) rfl rfl
theorem zip_row {a z : T} {m n k : Nat} (h : n + k ≤ m) : (List.replicate n a ++ List.replicate (m - n) z).take n ++ List.replicate k a ++ (List.replicate n a ++ List.replicate (m - n) z).drop (n + k) = List.replicate (n + k) a ++ List.replicate (m - (n + k)) z := by
  have e1 : (List.replicate n a ++ List.replicate (m - n) z).take n = List.replicate n a := by simp
  have e2 : (List.replicate n a ++ List.replicate (m - n) z).drop (n + k) = List.replicate (m - (n + k)) z := by
    rw [List.drop_append, List.drop_eq_nil_of_le (by simp), List.nil_append]
    simp only [List.length_replicate, List.drop_replicate]
    congr 1; omega
  rw [e1, e2, List.replicate_append_replicate]
theorem repeat_p (t0 : Ty) (nl : Bool) (m : Nat) (hm : m ≤ 1000) : E.Pure Tryz.prog 43 [.sl nl [agTy t0], tInt m] (.one (.own 4 (List.replicate m (agTy t0)))) := by
  have e1 : IntKind.u64.wrap (m : Int) = m := Mul64.wrapN m (by omega)
  have e2 : IntKind.i64.wrap (m : Int) = m := wrap_i64 (by omega) (by omega)
  have h1 : E.Pure Tryz.prog 63 [.v (.int .u64 (IntKind.u64.wrap ((([agTy t0] : List T).length : Nat) : Int))), .v (.int .u64 (IntKind.u64.wrap (m : Int)))] (.tup [.t (.v (.int .u64 0)), .t (.v (.int .u64 m))]) := by
    have h := mul_p 1 m (by decide) (by omega)
    rw [Nat.one_mul, Nat.div_eq_of_lt (by omega), Nat.mod_eq_of_lt (by omega)] at h
    rw [e1]
    exact h
  refine Pure.of1 Tryz.func43 rfl rfl (Nat.le_of_ble_eq_true rfl) rfl ?_
  repeat' (first | refine Tri.seq ?_ | refine Tri.reg ?_ | refine TriL.nil ?_ | (apply U.moveT; rfl; trivial; rfl) | (apply U.assignT; rfl; trivial; rfl) | (apply U.moveU; rfl; trivial; rfl) | (apply U.bin; rfl; trivial; rfl; trivial; rfl; rfl) | (apply U.len; rfl; trivial; rfl) | (apply U.ext; rfl; trivial; rfl; rfl) | (apply U.conv; rfl; trivial; rfl; rfl) | (apply U.pickb; rfl; trivial; rfl; (first | trivial | exact id | exact And.right | exact gvA | exact gvB | exact And.left | exact gvN | exact gvP2 | exact gvN2 | exact gvLA); rfl; (first | trivial | exact id | exact And.right | exact gvA | exact gvB | exact And.left | exact gvN | exact gvP2 | exact gvN2 | exact gvLA); rfl) | (apply G.moveT; rfl; (first | trivial | exact id | exact And.right | exact gvA | exact gvB | exact And.left | exact gvN | exact gvP2 | exact gvN2 | exact gvLA); rfl; rfl; rfl) | (apply G.bin; rfl; (first | trivial | exact id | exact And.right | exact gvA | exact gvB | exact And.left | exact gvN | exact gvP2 | exact gvN2 | exact gvLA); rfl; (first | trivial | exact id | exact And.right | exact gvA | exact gvB | exact And.left | exact gvN | exact gvP2 | exact gvN2 | exact gvLA); rfl; rfl; rfl; rfl) | refine Tri.skip ?_ | refine U.callP2 rfl rfl rfl (by assumption) rfl ?_ | (refine Tri.cond rfl (fun h => ?_) (fun h => ?_) <;> (try simp at h) <;> (try contradiction)) | fail)
  · exfalso; omega
  · rw [e2]
    (apply U.make; rfl; trivial; rfl; trivial; rfl; rfl; rfl; omega; omega; omega; omega; rfl)
    rw [Int.toNat_natCast]
    repeat' (first | refine Tri.seq ?_ | refine Tri.reg ?_ | refine TriL.nil ?_ | (apply U.moveT; rfl; trivial; rfl) | (apply U.moveR; rfl; trivial; rfl) | (apply U.assignR; rfl; trivial; rfl) | fail)
    obtain ⟨k0, hk0⟩ : ∃ k, k = Nat.min 1 m := ⟨_, rfl⟩
    have hk1 : k0 ≤ 1 := by rw [hk0]; exact Nat.min_le_left 1 m
    have hk2 : k0 ≤ m := by rw [hk0]; exact Nat.min_le_right 1 m
    have hk3 : 0 < m → 0 < k0 := fun h => by rw [hk0]; exact Nat.lt_min.2 ⟨Nat.zero_lt_one, h⟩
    have hrep : ([agTy t0] : List T).take k0 = List.replicate k0 (agTy t0) := by
      match k0, hk1 with
      | 0, _ => rfl
      | 1, _ => rfl
    refine U.copyRow (m := 1) (k := k0) (ys := List.replicate k0 (agTy t0)) ty23 ty25 rfl rfl hk0 ?_ (by simp) (by simpa using hk2) rfl ?_
    · rw [← hrep]
      exact SrcK.row (xs := [agTy t0]) ty23 rfl hk1 (fun i x hx => by cases i with | zero => simp at hx; subst hx; rfl | succ i => simp at hx)
    repeat' (first | refine Tri.seq ?_ | refine TriL.nil ?_ | (apply U.assignT; rfl; trivial; rfl) | refine Tri.block ?_ | fail)
    refine Tri.loopS (α := Nat) (fun n => ⟨[(8, .t (tInt n)), (7, .ref 0 4 0 m m)], Tryz.f43.ntmps, [(0, .row 4 (List.replicate n (agTy t0) ++ List.replicate (m - n) (agTy ty0)) false)], 0, 1⟩)
      (fun n => n ≤ m ∧ (0 < m → 0 < n)) (fun n => m - n) k0 ⟨hk2, hk3⟩ ?_ ?_
    · refine Sub.of rfl rfl ⟨rfl, rfl, trivial⟩ ⟨?_, trivial⟩
      have h := zip_row (a := agTy t0) (z := agTy ty0) (m := m) (n := 0) (k := k0) (by omega)
      simp only [List.replicate_zero, List.nil_append, Nat.sub_zero, Nat.zero_add] at h
      rw [← h, Nat.zero_add]; rfl
    · rintro n ⟨hn, hn0⟩
      repeat' (first | refine Tri.seq ?_ | refine Tri.reg ?_ | refine TriL.nil ?_ | (apply U.moveT; rfl; trivial; rfl) | (apply U.moveR; rfl; trivial; rfl) | (apply U.assignR; rfl; trivial; rfl) | (apply U.bin; rfl; trivial; rfl; trivial; rfl; rfl) | (apply U.lenR; rfl; trivial; rfl) | refine Tri.skip ?_ | refine Tri.block ?_ | refine Tri.exit ?_ | refine Tri.ret ?_ | (refine Tri.cond rfl (fun h => ?_) (fun h => ?_) <;> (try simp at h) <;> (try contradiction)) | fail)
      · have hlt : n < m := by omega
        have hpos : 0 < n := hn0 (by omega)
        obtain ⟨k, hk⟩ : ∃ k, k = Nat.min n (m - n) := ⟨_, rfl⟩
        have hk1 : k ≤ n := by rw [hk]; exact Nat.min_le_left n (m - n)
        have hk2 : k ≤ m - n := by rw [hk]; exact Nat.min_le_right n (m - n)
        have hk3 : 0 < k := by rw [hk]; exact Nat.lt_min.2 ⟨hpos, by omega⟩
        refine Tri.regX mixed (by kernel_rfl) rfl rfl ?_
        repeat' (first | (apply X.v; rfl; (focus (repeat' (first | refine TriL.nil ?_ | exact ⟨rfl, rfl, rfl⟩ | (apply U.moveT; rfl; trivial; rfl) | (apply U.moveR; rfl; trivial; rfl) | (apply U.cutR1; rfl; rfl; omega; omega; omega; rfl) | (apply U.cutR0; rfl; rfl; omega; omega; rfl) | fail))); exact Yes.mk rfl) | (apply X.a; rfl; (focus (repeat' (first | refine TriL.nil ?_ | exact ⟨rfl, rfl, rfl⟩ | (apply U.moveT; rfl; trivial; rfl) | (apply U.moveR; rfl; trivial; rfl) | (apply U.cutR1; rfl; rfl; omega; omega; omega; rfl) | (apply U.cutR0; rfl; rfl; omega; omega; rfl) | fail))); exact Yes.mk rfl) | refine TriL.nil ?_ | exact ⟨rfl, rfl, rfl⟩ | (apply U.moveT; rfl; trivial; rfl) | (apply U.moveR; rfl; trivial; rfl) | (apply U.cutR1; rfl; rfl; omega; omega; omega; rfl) | (apply U.cutR0; rfl; rfl; omega; omega; rfl) | fail)
        have hr : ((List.replicate n (agTy t0) ++ List.replicate (m - n) (agTy ty0)).drop (0 + 0)).take k = List.replicate k (agTy t0) := by
          rw [Nat.add_zero, List.drop_zero, List.take_append_of_le_length (by simpa using hk1), List.take_replicate, Nat.min_eq_left hk1]
        (apply X.w [0] (q := .t (.v (.int .i64 k))); rfl)
        · refine U.copyRow (m := n) (k := k) (ys := List.replicate k (agTy t0)) ty23 ty25 rfl rfl hk ?_ (by simp) (by simp; omega) rfl ?_
          · rw [← hr]
            exact SrcK.ref ty23 rfl rfl hk1 (by simp; omega)
          · exact TriL.nil ⟨rfl, rfl, rfl⟩
        · exact Yes.mk rfl
        repeat' (first | (apply X.v; rfl; (focus (repeat' (first | refine TriL.nil ?_ | exact ⟨rfl, rfl, rfl⟩ | (apply U.assignT; rfl; trivial; rfl) | (apply U.add; rfl; trivial; rfl; trivial; exact fun _ => wrap_i64 (by omega) (by omega); rfl) | fail))); exact Yes.mk rfl) | (apply X.a; rfl; (focus (repeat' (first | refine TriL.nil ?_ | exact ⟨rfl, rfl, rfl⟩ | (apply U.assignT; rfl; trivial; rfl) | (apply U.add; rfl; trivial; rfl; trivial; exact fun _ => wrap_i64 (by omega) (by omega); rfl) | fail))); exact Yes.mk rfl) | refine TriL.nil ?_ | refine X.nil ?_ | exact ⟨rfl, rfl, rfl⟩ | (apply U.assignT; rfl; trivial; rfl) | (apply U.add; rfl; trivial; rfl; trivial; exact fun _ => wrap_i64 (by omega) (by omega); rfl) | fail)
        refine ⟨n + k, ⟨by omega, fun _ => by omega⟩, by omega, Sub.of rfl rfl ⟨rfl, rfl, trivial⟩ ⟨?_, trivial⟩⟩
        rw [← zip_row (by omega : n + k ≤ m)]
        show some (Blk.row 4 _ false) = _
        rw [Nat.zero_add]
      · refine Comes1.retO rfl rfl (by simp; omega) ?_
        obtain rfl : n = m := by omega
        simp
end Go.Proofs.YtmhbibfkhbaclaaGreatDoor

/- What a value of a type is made of: the code's. -/
namespace Go.Proofs.YtmhbibfkhbaclaaGreatDoor
open Go E
set_option maxRecDepth 100000
set_option maxHeartbeats 4000000
set_option linter.unusedVariables false
set_option linter.unusedSimpArgs false
attribute [local irreducible] Tri TriL TriO PO VO E.Pure DOb XOb
theorem span_p (k : Int) : E.Pure Tryz.prog 39 [tInt k] (.tup [.t (tInt (loK k)), .t (tInt (hiK k)), .t (tBool (isW k))]) := by
  refine Pure.of3 Tryz.func39 rfl rfl (Nat.le_of_ble_eq_true rfl) rfl ?_
  repeat' (first | refine Tri.seq ?_ | refine Tri.reg ?_ | refine TriL.nil ?_ | (apply U.moveT; rfl; trivial; rfl) | (apply U.assignT; rfl; trivial; rfl) | (apply U.bin; rfl; trivial; rfl; trivial; rfl; rfl) | refine Tri.skip ?_ | refine Tri.block ?_ | refine Tri.ret ?_ | (refine Tri.cond rfl (fun h => ?_) (fun h => ?_) <;> (try simp at h) <;> (try contradiction)) | fail)
  all_goals first
    | (subst h; exact Comes3.trees (.inr rfl) rfl rfl rfl)
    | (have e1 : loK k = 0 := by simp [loK, *]
       have e2 : hiK k = 0 := by simp [hiK, *]
       have e3 : isW k = false := decide_eq_false (by omega)
       rw [e1, e2, e3]
       exact Comes3.trees (.inr rfl) rfl rfl rfl)
theorem scalar_p (p : Int) : E.Pure Tryz.prog 40 [tInt p] (.one (.t (tBool (scalarB p)))) := by
  refine Pure.of1 Tryz.func40 rfl rfl (Nat.le_of_ble_eq_true rfl) rfl ?_
  repeat' (first | refine Tri.seq ?_ | refine Tri.reg ?_ | refine TriL.nil ?_ | (apply U.moveT; rfl; trivial; rfl) | (apply U.assignT; rfl; trivial; rfl) | (apply U.bin; rfl; trivial; rfl; trivial; rfl; rfl) | (apply U.pickb; rfl; trivial; rfl; (first | trivial | exact id | exact And.right | exact gvA | exact gvB | exact And.left | exact gvN | exact gvP2 | exact gvN2 | exact gvLA); rfl; (first | trivial | exact id | exact And.right | exact gvA | exact gvB | exact And.left | exact gvN | exact gvP2 | exact gvN2 | exact gvLA); rfl) | (apply G.moveT; rfl; (first | trivial | exact id | exact And.right | exact gvA | exact gvB | exact And.left | exact gvN | exact gvP2 | exact gvN2 | exact gvLA); rfl; rfl; rfl) | (apply G.bin; rfl; (first | trivial | exact id | exact And.right | exact gvA | exact gvB | exact And.left | exact gvN | exact gvP2 | exact gvN2 | exact gvLA); rfl; (first | trivial | exact id | exact And.right | exact gvA | exact gvB | exact And.left | exact gvN | exact gvP2 | exact gvN2 | exact gvLA); rfl; rfl; rfl; rfl) | (apply G.pickb; rfl; (first | trivial | exact id | exact And.right | exact gvA | exact gvB | exact And.left | exact gvN | exact gvP2 | exact gvN2 | exact gvLA); rfl; (first | trivial | exact id | exact And.right | exact gvA | exact gvB | exact And.left | exact gvN | exact gvP2 | exact gvN2 | exact gvLA); rfl; (first | trivial | exact id | exact And.right | exact gvA | exact gvB | exact And.left | exact gvN | exact gvP2 | exact gvN2 | exact gvLA); rfl; rfl; rfl) | refine Tri.ret ?_ | fail)
  refine Comes1.ret rfl (retB ?_)
  rw [Bool.eq_iff_iff]
  simp [scalarB]
  omega
theorem notSc_p (p : Int) : E.Pure Tryz.prog 41 [tInt p] (.one (.t (tBool (!scalarB p)))) := by
  have h1 := scalar_p p
  refine Pure.of1 Tryz.func41 rfl rfl (Nat.le_of_ble_eq_true rfl) rfl ?_
  repeat' (first | refine Tri.seq ?_ | refine Tri.reg ?_ | refine TriL.nil ?_ | (apply U.moveT; rfl; trivial; rfl) | (apply U.assignT; rfl; trivial; rfl) | (apply U.not; rfl; trivial; rfl) | refine U.call1 rfl rfl (by assumption) rfl ?_ | refine Tri.ret ?_ | fail)
  exact Comes1.ret rfl rfl
/-- Where the first one is that is no character. -/
def idxS : Int → List Int → Int
  | _, [] => -1
  | i, x :: xs => if scalarB x = true then idxS (i + 1) xs else i
theorem idxS_step {l : List Int} {i : Nat} {k : Int} (h : i < l.length) : idxS k (l.drop i) = if scalarB l[i] = true then idxS (k + 1) (l.drop (i + 1)) else k := by
  rw [List.drop_eq_getElem_cons h, idxS]
theorem idxS_pos : ∀ (l : List Int) (k : Int), 0 ≤ k → (decide (idxS k l ≥ 0) = !l.all scalarB)
  | [], k, _ => rfl
  | x :: xs, k, hk => by
    rw [idxS, List.all_cons]
    split
    · rename_i e; rw [e, idxS_pos xs (k + 1) (by omega)]; simp
    · rename_i e; simp [e]; exact hk
abbrev fnSc : T := .v (.func (.func 41) #[] #[])
theorem indexS_p (l : List Int) (nn : Bool) (hb : l.length ≤ big) : E.Pure Tryz.prog 30 [.sl nn (l.map tInt), fnSc] (.one (.t (tInt (idxS 0 l)))) := by
  unfold big at hb
  have hlen : (l.map tInt).length = l.length := by simp
  refine Pure.of1 Tryz.func30 rfl rfl (Nat.le_of_ble_eq_true rfl) rfl ?_
  repeat' (first | refine Tri.seq ?_ | refine Tri.reg ?_ | refine TriL.nil ?_ | (apply U.moveT; rfl; trivial; rfl) | (apply U.assignT; rfl; trivial; rfl) | (apply U.len; rfl; trivial; rfl) | refine Tri.block ?_ | fail)
  refine Tri.loopS (α := Nat) (fun i => ⟨[(8, .t (tInt i)), (7, .t (tInt l.length)), (1, .t fnSc), (0, .t (.sl nn (l.map tInt)))], Tryz.f30.ntmps, [], 0, 0⟩)
    (fun i => i ≤ l.length ∧ idxS 0 l = idxS i (l.drop i)) (fun i => l.length - i) 0 ?_ ?_ ?_
  · exact ⟨Nat.zero_le _, rfl⟩
  · refine Sub.of rfl rfl ⟨rfl, ?_, rfl, rfl, trivial⟩ trivial
    rw [← hlen]; rfl
  · rintro i ⟨hi, hn⟩
    repeat' (first | refine Tri.seq ?_ | refine Tri.reg ?_ | refine TriL.nil ?_ | (apply U.moveT; rfl; trivial; rfl) | (apply U.assignT; rfl; trivial; rfl) | (apply U.bin; rfl; trivial; rfl; trivial; rfl; rfl) | refine Tri.skip ?_ | refine Tri.block ?_ | refine Tri.exit ?_ | refine Tri.ret ?_ | (refine Tri.cond rfl (fun h => ?_) (fun h => ?_) <;> (try simp at h) <;> (try contradiction)) | fail)
    · have hlt : i < l.length := by omega
      have hget := get_int hlt
      have hstep := idxS_step (k := i) hlt
      have h1 := notSc_p l[i]
      repeat' (first | refine Tri.seq ?_ | refine Tri.reg ?_ | refine TriL.nil ?_ | (apply U.moveT; rfl; trivial; rfl) | (apply U.assignT; rfl; trivial; rfl) | (apply U.add; rfl; trivial; rfl; trivial; exact fun _ => wrap_i64 (by omega) (by omega); rfl) | (apply U.loadE; rfl; rfl; trivial; rfl; rfl) | (apply U.idx; rfl; trivial; rfl; trivial; exact fun _ => (by omega); exact fun _ => (by assumption); exact fun _ => rfl; rfl) | refine U.call1 rfl rfl (by assumption) rfl ?_ | refine Tri.skip ?_ | refine Tri.ret ?_ | (refine Tri.cond rfl (fun h => ?_) (fun h => ?_) <;> (try simp at h) <;> (try contradiction)) | fail)
      · refine Comes1.ret rfl ?_
        rw [hn, hstep, if_neg (by simpa using h)]
      · refine ⟨i + 1, ⟨by omega, ?_⟩, by omega, Sub.of rfl rfl ⟨rfl, rfl, rfl, rfl, trivial⟩ trivial⟩
        rw [hn, hstep, if_pos (by simpa using h)]; rfl
    · refine Comes1.ret rfl ?_
      have : i = l.length := by omega
      subst this
      rw [hn, List.drop_length, idxS]; rfl
theorem containsS_p (l : List Int) (nn : Bool) (hb : l.length ≤ big) : E.Pure Tryz.prog 18 [.sl nn (l.map tInt), fnSc] (.one (.t (tBool (!l.all scalarB)))) := by
  have h1 := indexS_p l nn hb
  refine Pure.of1 Tryz.func18 rfl rfl (Nat.le_of_ble_eq_true rfl) rfl ?_
  repeat' (first | refine Tri.seq ?_ | refine Tri.reg ?_ | refine TriL.nil ?_ | (apply U.moveT; rfl; trivial; rfl) | (apply U.assignT; rfl; trivial; rfl) | (apply U.bin; rfl; trivial; rfl; trivial; rfl; rfl) | refine U.call2 rfl rfl rfl (by assumption) rfl ?_ | refine Tri.ret ?_ | fail)
  exact Comes1.ret rfl (retB (idxS_pos l 0 (by omega)))
theorem all_core (ts : List Ty) (l : List Val) (nt nl : Bool) (hb : l.length ≤ big) (hl : l.length ≤ ts.length) (hel : ∀ (i : Nat) (h : i < l.length) (h2 : i < ts.length), E.Pure Tryz.prog 27 [agTy ts[i], agVal l[i]] (.one (.t (tInt (partV l[i] ts[i]))))) :
    E.Pure Tryz.prog 42 [.sl nt (encTys ts), .sl nl (encVals l)] (.one (.t (tInt (sumV l ts 1)))) := by
  unfold big at hb
  have h1 := encTys_length ts
  have h2 := encVals_length l
  refine Pure.of1 Tryz.func42 rfl rfl (Nat.le_of_ble_eq_true rfl) rfl ?_
  repeat' (first | refine Tri.seq ?_ | refine Tri.reg ?_ | refine TriL.nil ?_ | (apply U.moveT; rfl; trivial; rfl) | (apply U.assignT; rfl; trivial; rfl) | (apply U.len; rfl; trivial; rfl) | refine Tri.block ?_ | fail)
  refine Tri.loopS (α := Nat × Nat) (fun a => ⟨[(11, .t (tInt a.1)), (10, .t (tInt l.length)), (9, .t (.sl nl (encVals l))), (5, .t (tInt a.2)), (1, .t (.sl nl (encVals l))), (0, .t (.sl nt (encTys ts)))], Tryz.f42.ntmps, [], 0, 0⟩)
    (fun a => a.1 ≤ l.length ∧ a.2 ≤ 4000 ∧ sumV l ts 1 = sumV (l.drop a.1) (ts.drop a.1) a.2) (fun a => l.length - a.1) (0, 1) ?_ ?_ ?_
  · exact ⟨Nat.zero_le _, by decide, rfl⟩
  · refine Sub.of rfl rfl ⟨rfl, ?_, rfl, rfl, rfl, rfl, trivial⟩ trivial
    rw [← h2]; rfl
  · rintro ⟨i, n⟩ ⟨hi, hn, hs⟩
    dsimp only at hi hn hs ⊢
    repeat' (first | refine Tri.seq ?_ | refine Tri.reg ?_ | refine TriL.nil ?_ | (apply U.moveT; rfl; trivial; rfl) | (apply U.assignT; rfl; trivial; rfl) | (apply U.bin; rfl; trivial; rfl; trivial; rfl; rfl) | refine Tri.skip ?_ | refine Tri.block ?_ | refine Tri.exit ?_ | refine Tri.ret ?_ | (refine Tri.cond rfl (fun h => ?_) (fun h => ?_) <;> (try simp at h) <;> (try contradiction)) | fail)
    · have hlt : i < l.length := by omega
      have hlt2 : i < ts.length := by omega
      have hg1 := get_val hlt
      have hg2 := get_ty hlt2
      have hc := hel i hlt hlt2
      have hle := partV_le l[i] ts[i]
      have hstep := sumV_step (acc := n) hlt hlt2
      repeat' (first | refine Tri.seq ?_ | refine TriL.nil ?_ | (apply U.assignT; rfl; trivial; rfl) | (apply U.loadES; rfl; rfl; trivial; rfl; rfl; rfl) | (apply U.idx; rfl; trivial; rfl; trivial; exact fun _ => (by omega); exact fun _ => (by assumption); exact fun _ => rfl; rfl) | (apply U.alloc; rfl; rfl; rfl; rfl) | (apply U.storeS; rfl; rfl; rfl; rfl; rfl; rfl; rfl; rfl) | fail)
      refine Tri.regX mixed (by kernel_rfl) rfl rfl ?_
      repeat' (first | refine Tri.seq ?_ | refine Tri.reg ?_ | refine TriL.nil ?_ | exact Yes.mk rfl | refine X.nil ?_ | (apply X.a; rfl) | exact ⟨rfl, rfl, rfl⟩ | (apply U.moveT; rfl; trivial; rfl) | (apply U.assignT; rfl; trivial; rfl) | (apply U.add; rfl; trivial; rfl; trivial; exact fun _ => wrap_i64 (by omega) (by omega); rfl) | (apply U.bin; rfl; trivial; rfl; trivial; rfl; rfl) | (apply U.loadES; rfl; rfl; trivial; rfl; rfl; rfl) | (apply U.loadS; rfl; rfl; trivial; rfl; rfl; rfl; rfl; rfl) | (apply U.pickb; rfl; trivial; rfl; (first | trivial | exact id | exact And.right | exact gvA | exact gvB | exact And.left | exact gvN | exact gvP2 | exact gvN2 | exact gvLA); rfl; (first | trivial | exact id | exact And.right | exact gvA | exact gvB | exact And.left | exact gvN | exact gvP2 | exact gvN2 | exact gvLA); rfl) | (apply U.idx; rfl; trivial; rfl; trivial; exact fun _ => (by omega); exact fun _ => (by assumption); exact fun _ => rfl; rfl) | (apply G.moveT; rfl; (first | trivial | exact id | exact And.right | exact gvA | exact gvB | exact And.left | exact gvN | exact gvP2 | exact gvN2 | exact gvLA); rfl; rfl; rfl) | (apply G.bin; rfl; (first | trivial | exact id | exact And.right | exact gvA | exact gvB | exact And.left | exact gvN | exact gvP2 | exact gvN2 | exact gvLA); rfl; (first | trivial | exact id | exact And.right | exact gvA | exact gvB | exact And.left | exact gvN | exact gvP2 | exact gvN2 | exact gvLA); rfl; rfl; rfl; rfl) | refine U.call2 rfl rfl rfl (by assumption) rfl ?_ | refine Tri.skip ?_ | refine Tri.ret ?_ | (refine Tri.cond rfl (fun h => ?_) (fun h => ?_) <;> (try simp at h) <;> (try contradiction)) | fail)
      · refine Comes1.ret rfl ?_
        rw [hs, hstep, if_pos (by omega)]; rfl
      · refine ⟨(i + 1, n + partV l[i] ts[i]), ⟨by dsimp only; omega, by dsimp only; omega, ?_⟩, by dsimp only; omega, Sub.ofn (Nat.zero_le _) rfl ⟨rfl, rfl, rfl, rfl, rfl, rfl, trivial⟩ trivial rfl rfl⟩
        rw [hs, hstep, if_neg (by omega)]
    · refine Comes1.ret rfl ?_
      rw [hs, List.drop_eq_nil_of_le (by omega), sumV]
end Go.Proofs.YtmhbibfkhbaclaaGreatDoor

/- What a value of a type is made of: the code's parts. -/
namespace Go.Proofs.YtmhbibfkhbaclaaGreatDoor
open Go E
set_option maxRecDepth 100000
set_option maxHeartbeats 4000000
set_option linter.unusedVariables false
set_option linter.unusedSimpArgs false
attribute [local irreducible] Tri TriL TriO PO VO E.Pure DOb XOb
theorem mk_kind (k : Int) (nn : Bool) (ns : List ByteArray) (nl : Bool) (l : List Ty) (r : Int) : (Ty.mk k nn ns nl l r).kind = k := rfl
theorem mk_l (k : Int) (nn : Bool) (ns : List ByteArray) (nl : Bool) (l : List Ty) (r : Int) : (Ty.mk k nn ns nl l r).l = l := rfl
theorem map_typesX (l : List Ty) : encTys l = l.map encTy := by
  induction l with
  | nil => rfl
  | cons t l ih => simp [encTys, ih]
theorem plain_case {t : Ty} (h : 13 ≤ t.kind ∧ t.kind ≤ 18) : ((plainT false t).kind = 13 ↔ t.kind = 13 ∨ t.kind = 14) ∧ (t.kind = 13 ∨ t.kind = 14 → (plainT false t).l = t.l) := by
  have : t.kind = 13 ∨ t.kind = 14 ∨ t.kind = 15 ∨ t.kind = 16 ∨ t.kind = 17 ∨ t.kind = 18 := by omega
  rcases this with e | e | e | e | e | e <;> simp [plainT, e, mk_kind, mk_l]
theorem rest_kind {t : Ty} (hv : Vd t) (h0 : t.kind ≠ 0) (hw : isW t.kind = false) (h1 : ¬t.kind = 10) (h2 : ¬t.kind = 11) (h3 : ¬t.kind = 19) (h4 : ¬t.kind = 12) : 13 ≤ t.kind ∧ t.kind ≤ 18 := by
  have h5 := of_decide_eq_false hw
  rcases hv.kinds with ⟨h, _⟩ | ⟨h6, h7, _⟩
  · exact absurd h h0
  · omega
theorem partV_ps {t : Ty} {v : Val} (h : 13 ≤ t.kind ∧ t.kind ≤ 18) : partV v t = if v.s ≠ [] then 0 else if insB t v.n v.l.length = true then sumV v.l (insL t v.n v.l.length) 1 else 0 := by
  have hw : ¬ isW t.kind = true := by intro e; have := of_decide_eq_true e; omega
  rw [partV_eq, if_neg hw, if_neg (by omega), if_neg (by omega)]
  by_cases hs : v.s ≠ []
  · rw [if_pos hs, if_pos hs]
  · rw [if_neg hs, if_neg hs, if_neg (by omega)]
theorem own_pos {t : Ty} (h : ownB t = true) : 1 ≤ t.kind := by
  unfold ownB at h
  (repeat' split at h) <;> simp at h <;> omega
theorem own12 {t : Ty} (h : ownB t = true) (e : t.kind = 12) : t.l.length = 1 := by
  unfold ownB at h
  rw [e] at h
  (repeat' split at h) <;> simp at h <;> omega
theorem deepsB_el {k n : Int} (hk : ¬(k = 15 ∨ k = 18)) : ∀ {l : List Ty}, deepsB k l n = true → ∀ x ∈ l, deepB x (n + 1) = true
  | [], _, x, hx => by cases hx
  | t :: ts, h, x, hx => by
    rw [deepsB, decide_eq_false hk] at h
    simp only [Bool.false_and, Bool.false_or, Bool.and_eq_true] at h
    rcases List.mem_cons.1 hx with rfl | hx
    · exact h.1
    · exact deepsB_el hk h.2 x hx
theorem Vd.deep {t : Ty} (h : Vd t) (h0 : t.kind ≠ 0) : ∃ n, deepB t n = true := by
  rcases h with h | h
  · exact absurd (noneT_spec h).1 h0
  · exact h
theorem Vd.own {t : Ty} (h : Vd t) (h0 : t.kind ≠ 0) : ownB t = true := by
  obtain ⟨n, hn⟩ := h.deep h0
  rw [deepB_eq, Bool.and_eq_true, Bool.and_eq_true] at hn
  exact hn.1.2
/-- What is within one that is no variant, is one. -/
theorem Vd.elk {t x : Ty} (h : Vd t) (h0 : t.kind ≠ 0) (hk : ¬(t.kind = 15 ∨ t.kind = 18)) (hx : x ∈ t.l) : Vd x ∧ x.kind ≠ 0 := by
  obtain ⟨n, hn⟩ := h.deep h0
  rw [deepB_eq, Bool.and_eq_true] at hn
  have h1 := deepsB_el hk hn.2 x hx
  refine ⟨.inr ⟨_, h1⟩, ?_⟩
  have := own_pos (Vd.own (t := x) (.inr ⟨_, h1⟩) ?_)
  · omega
  · rw [deepB_eq, Bool.and_eq_true, Bool.and_eq_true] at h1
    have := own_pos h1.1.2
    omega
theorem flag_pow {n : Nat} (h : n ≤ 32) : IntKind.i64.wrap (2 ^ n.min IntKind.i64.bits) = (2 : Int) ^ n := by
  have e1 : n.min IntKind.i64.bits = n := Nat.min_eq_left (Nat.le_trans h (by decide))
  rw [e1]
  have hb : 2 ^ n ≤ 4294967296 := Nat.le_trans (Nat.pow_le_pow_right (by decide) h) (by decide)
  have e : ((2 : Int) ^ n) = ((2 ^ n : Nat) : Int) := by push_cast; rfl
  rw [e]
  clear e e1
  generalize 2 ^ n = p at hb
  exact wrap_i64 (by omega) (by omega)
theorem vparts_p : ∀ (m : Nat) (v : Val) (t : Ty), SizeOf.sizeOf v ≤ m → smallV v → Vd t → t.kind ≠ 0 → E.Pure Tryz.prog 27 [encTy t, encVal v] (.one (.t (tInt (partV v t)))) := by
  intro m
  induction m with
  | zero => intro v t hm; cases v; simp at hm
  | succ m ih =>
    intro v t hm hs hv hk0
    have hb1 := smallV_s hs
    have hb2 := smallV_l hs
    have hsp := span_p t.kind
    have hsc := scalar_p v.n
    have hcs := containsS_p v.s v.ns hb1
    have hpl := plain_p t hv.dim.nm hv.dim.l
    have hb2' := hb2
    unfold big at hb1 hb2
    have hlen := encVals_length v.l
    have hsl : (v.s.map tInt).length = v.s.length := by simp
    have hlen2 := encTys_length (plainT false t).l
    have el : v.l = [] → v.l.length = 0 := fun e => by rw [e]; rfl
    have es : v.s = [] → v.s.length = 0 := fun e => by rw [e]; rfl
    have el2 : v.l.length = 0 → v.l = [] := List.length_eq_zero_iff.1
    have es2 : v.s.length = 0 → v.s = [] := List.length_eq_zero_iff.1
    refine Pure.of1 Tryz.func27 rfl rfl (Nat.le_of_ble_eq_true rfl) rfl ?_
    rw [encTy_eta, encTy_eta (plainT false t)] at hpl
    rw [encTy_eta, encVal_eta]
    repeat' (first | refine Tri.seq ?_ | refine Tri.reg ?_ | refine TriL.nil ?_ | (apply U.moveT; rfl; trivial; rfl) | (apply U.assignT; rfl; trivial; rfl) | (apply U.moveU; rfl; trivial; rfl) | (apply U.load; rfl; rfl; trivial; rfl; rfl; rfl) | (apply U.fld; rfl; trivial; rfl; infer_instance; decide; rfl) | (apply U.add; rfl; trivial; rfl; trivial; exact fun _ => wrap_i64 (by omega) (by omega); rfl) | (apply U.bin; rfl; trivial; rfl; trivial; rfl; rfl) | (apply U.len; rfl; trivial; rfl) | (apply U.loadS; rfl; rfl; trivial; rfl; rfl; rfl; rfl; rfl) | (apply U.ext; rfl; trivial; rfl; rfl) | (apply U.not; rfl; trivial; rfl) | (apply U.pickb; rfl; trivial; rfl; (first | trivial | exact id | exact And.right | exact gvA | exact gvB | exact And.left | exact gvN | exact gvP2 | exact gvN2 | exact gvLA); rfl; (first | trivial | exact id | exact And.right | exact gvA | exact gvB | exact And.left | exact gvN | exact gvP2 | exact gvN2 | exact gvLA); rfl) | (apply U.boxA; rfl; rfl) | (apply U.storeS; rfl; rfl; rfl; rfl; rfl; rfl; rfl; rfl) | (apply G.moveT; rfl; (first | trivial | exact id | exact And.right | exact gvA | exact gvB | exact And.left | exact gvN | exact gvP2 | exact gvN2 | exact gvLA); rfl; rfl; rfl) | (apply G.load; rfl; rfl; (first | trivial | exact id | exact And.right | exact gvA | exact gvB | exact And.left | exact gvN | exact gvP2 | exact gvN2 | exact gvLA); rfl; rfl; rfl; rfl; rfl) | (apply G.fld; rfl; (first | trivial | exact id | exact And.right | exact gvA | exact gvB | exact And.left | exact gvN | exact gvP2 | exact gvN2 | exact gvLA); rfl; infer_instance; decide; rfl; rfl; rfl) | (apply G.add; rfl; (first | trivial | exact id | exact And.right | exact gvA | exact gvB | exact And.left | exact gvN | exact gvP2 | exact gvN2 | exact gvLA); rfl; (first | trivial | exact id | exact And.right | exact gvA | exact gvB | exact And.left | exact gvN | exact gvP2 | exact gvN2 | exact gvLA); exact fun _ => wrap_i64 (by omega) (by omega); rfl; rfl; rfl) | (apply G.bin; rfl; (first | trivial | exact id | exact And.right | exact gvA | exact gvB | exact And.left | exact gvN | exact gvP2 | exact gvN2 | exact gvLA); rfl; (first | trivial | exact id | exact And.right | exact gvA | exact gvB | exact And.left | exact gvN | exact gvP2 | exact gvN2 | exact gvLA); rfl; rfl; rfl; rfl) | (apply G.len; rfl; (first | trivial | exact id | exact And.right | exact gvA | exact gvB | exact And.left | exact gvN | exact gvP2 | exact gvN2 | exact gvLA); rfl; rfl; rfl) | refine U.call1 rfl rfl (by assumption) rfl ?_ | refine G.call2 rfl rfl (by (first | trivial | exact id | exact And.right | exact gvA | exact gvB | exact And.left | exact gvN | exact gvP2 | exact gvN2 | exact gvLA)) rfl (by (first | trivial | exact id | exact And.right | exact gvA | exact gvB | exact And.left | exact gvN | exact gvP2 | exact gvN2 | exact gvLA)) (by first | assumption | exact fun _ => by assumption) rfl rfl rfl ?_ | refine Tri.skip ?_ | refine Tri.block ?_ | refine Tri.ret ?_ | refine U.callP13 rfl rfl (by assumption) rfl ?_ | (refine Tri.cond rfl (fun h => ?_) (fun h => ?_) <;> (try simp at h) <;> (try contradiction)) | fail)
    · rename_i hw
      refine Comes1.ret rfl ?_
      rw [partV_eq, if_pos hw, if_neg ?_]
      · rfl
      rintro ⟨a, b, c⟩
      have a := of_decide_eq_true a
      have b := es b
      have c := el c
      omega
    · rename_i hw
      refine Comes1.ret rfl ?_
      rw [partV_eq, if_pos hw, if_pos ⟨decide_eq_true (by omega), es2 (by omega), el2 (by omega)⟩]; rfl
    · rename_i hw hk
      refine Comes1.ret rfl ?_
      rw [partV_eq, if_neg (by simp [hw]), if_pos hk, if_neg ?_]
      · rfl
      rintro ⟨a, b, c⟩
      have b := es b
      have c := el c
      rcases h with h | h
      · rw [a] at h; cases h
      · omega
    · rename_i hw hk
      refine Comes1.ret rfl ?_
      rw [partV_eq, if_neg (by simp [hw]), if_pos hk, if_pos ⟨h.1, es2 (by omega), el2 (by omega)⟩]; rfl
    · rename_i hw hk hk2
      refine Comes1.ret rfl ?_
      rw [partV_eq, if_neg (by simp [hw]), if_neg hk, if_pos hk2, if_neg ?_]
      · rfl
      rintro ⟨a, b, c, d⟩
      have c := el c
      rcases h with ((h | h) | h) | ⟨x, hx, h⟩
      · exact h b
      · omega
      · omega
      · rw [List.all_eq_true.1 a x hx] at h; cases h
    · rename_i hw hk hk2
      refine Comes1.ret rfl ?_
      have hz : v.l.length = 0 := by rw [← hlen, h.1.1.2]; rfl
      rw [partV_eq, if_neg (by simp [hw]), if_neg hk, if_pos hk2, if_pos ⟨List.all_eq_true.2 h.2, h.1.1.1, el2 hz, by omega⟩, hsl]; rfl
    · -- flags
      rename_i hw hk hk2
      have h19 := h
      have hw' : ¬ isW t.kind = true := by simp [hw]
      refine Tri.sub (s2 := ⟨[(3, .ptr 1 0), (2, .ptr 0 0)], Tryz.f27.ntmps, [(1, .obj [.t (.v (.int .i64 v.n)), .t (.sl v.ns (v.s.map tInt)), .t (.sl v.nl (encVals v.l))]), (0, .obj [.t (.v (.int .i64 t.kind)), .t (.sl t.nn (t.names.map tStr)), .t (.sl t.nl (encTys t.l)), .t (.v (.int .i64 t.r))])], 0, 2⟩) (Sub.of rfl rfl ⟨rfl, rfl, trivial⟩ ⟨rfl, rfl, trivial⟩) ?_
      refine Tri.regX mixed (by kernel_rfl) rfl rfl ?_
      have hnl : (t.names.map tStr).length = t.names.length := by simp
      have hpw := flag_pow (hv.dim.fl h19)
      repeat' (first | refine Tri.seq ?_ | refine Tri.reg ?_ | refine TriL.nil ?_ | exact Yes.mk rfl | refine X.nil ?_ | (apply X.a; rfl) | exact ⟨rfl, rfl, rfl⟩ | (apply U.moveT; rfl; trivial; rfl) | (apply U.assignT; rfl; trivial; rfl) | (apply U.load; rfl; rfl; trivial; rfl; rfl; rfl) | (apply U.fld; rfl; trivial; rfl; infer_instance; decide; rfl) | (apply U.bin; rfl; trivial; rfl; trivial; rfl; rfl) | (apply U.pickb; rfl; trivial; rfl; (first | trivial | exact id | exact And.right | exact gvA | exact gvB | exact And.left | exact gvN | exact gvP2 | exact gvN2 | exact gvLA); rfl; (first | trivial | exact id | exact And.right | exact gvA | exact gvB | exact And.left | exact gvN | exact gvP2 | exact gvN2 | exact gvLA); rfl) | (apply G.load; rfl; rfl; (first | trivial | exact id | exact And.right | exact gvA | exact gvB | exact And.left | exact gvN | exact gvP2 | exact gvN2 | exact gvLA); rfl; rfl; rfl; rfl; rfl) | (apply G.fld; rfl; (first | trivial | exact id | exact And.right | exact gvA | exact gvB | exact And.left | exact gvN | exact gvP2 | exact gvN2 | exact gvLA); rfl; infer_instance; decide; rfl; rfl; rfl) | (apply G.add; rfl; (first | trivial | exact id | exact And.right | exact gvA | exact gvB | exact And.left | exact gvN | exact gvP2 | exact gvN2 | exact gvLA); rfl; (first | trivial | exact id | exact And.right | exact gvA | exact gvB | exact And.left | exact gvN | exact gvP2 | exact gvN2 | exact gvLA); exact fun _ => wrap_i64 (by omega) (by omega); rfl; rfl; rfl) | (apply G.bin; rfl; (first | trivial | exact id | exact And.right | exact gvA | exact gvB | exact And.left | exact gvN | exact gvP2 | exact gvN2 | exact gvLA); rfl; (first | trivial | exact id | exact And.right | exact gvA | exact gvB | exact And.left | exact gvN | exact gvP2 | exact gvN2 | exact gvLA); rfl; rfl; rfl; rfl) | (apply G.len; rfl; (first | trivial | exact id | exact And.right | exact gvA | exact gvB | exact And.left | exact gvN | exact gvP2 | exact gvN2 | exact gvLA); rfl; rfl; rfl) | (apply G.shl; rfl; (first | trivial | exact id | exact And.right | exact gvA | exact gvB | exact And.left | exact gvN | exact gvP2 | exact gvN2 | exact gvLA); rfl; (first | trivial | exact id | exact And.right | exact gvA | exact gvB | exact And.left | exact gvN | exact gvP2 | exact gvN2 | exact gvLA); exact fun _ => (by first | omega | (simp at *; omega)); rfl; rfl; rfl) | refine Tri.skip ?_ | refine Tri.ret ?_ | (refine Tri.cond rfl (fun h => ?_) (fun h => ?_) <;> (try simp at h) <;> (try contradiction)) | fail)
      · rw [hpw] at h
        refine Comes1.ret rfl ?_
        rw [partV_eq, if_neg hw', if_neg hk, if_neg hk2]
        by_cases hs0 : v.s = []
        · rw [if_neg (by simp [hs0]), if_pos h19, if_neg ?_]
          · rfl
          rintro ⟨a, b, c⟩
          have c := el c
          have b2 := es hs0
          rcases h with (h | h) | h
          · omega
          · exact absurd b (Int.not_lt.2 h)
          · omega
        · rw [if_pos hs0]; rfl
      · rw [hpw] at h
        refine Comes1.ret rfl ?_
        rw [partV_eq, if_neg hw', if_neg hk, if_neg hk2, if_neg (by simp [es2 (by omega)]), if_pos h19, if_pos ⟨h.1.1, h.1.2, el2 (by omega)⟩]; rfl
    · rename_i hw hk hk2 hk3 hk4
      refine Comes1.ret rfl ?_
      rw [partV_eq, if_neg (by simp [hw]), if_neg hk, if_neg hk2]
      by_cases hs0 : v.s = []
      · rw [if_neg (by simp [hs0]), if_neg hk3, if_neg ?_]
        · rfl
        have hs1 := es hs0
        simp only [insB, hk4, if_pos, Bool.and_eq_true, decide_eq_true_eq]
        omega
      · rw [if_pos hs0]; rfl
    · rename_i hw hk hk2 hk3 hk4
      have hl1 := own12 (hv.own hk0) hk4
      obtain ⟨t0, ht0⟩ := List.length_eq_one_iff.1 hl1
      have hm0 : t0 ∈ t.l := by rw [ht0]; simp
      obtain ⟨hv0, hz0⟩ := hv.elk hk0 (by omega) hm0
      have hrep : E.Pure Tryz.prog 43 [.sl t.nl (encTys t.l), .v (.int .i64 ((encVals v.l).length : Int))] (.one (.t (.sl false (encTys (List.replicate v.l.length t0))))) := by
        have h1 := (repeat_p t0 t.nl v.l.length (by omega)).frz
        have hx : encTys [t0] = [agTy t0] := by simp [encTys, encTy_eta]
        rw [ht0, hx, hlen, encTys_rep, encTy_eta]
        exact h1
      have hall := all_core (List.replicate v.l.length t0) v.l false v.nl hb2' (by simp) fun i hi hj => by
        have := ih v.l[i] t0 (by have := vsize_get hi v rfl; omega) (smallVs_get (smallV_ls hs) (List.getElem?_eq_getElem hi)) hv0 hz0
        rw [encTy_eta, encVal_eta] at this
        simpa using this
      refine Tri.sub (s2 := ⟨[(3, .ptr 1 0), (2, .ptr 0 0)], Tryz.f27.ntmps, [(1, .obj [.t (.v (.int .i64 v.n)), .t (.sl v.ns (v.s.map tInt)), .t (.sl v.nl (encVals v.l))]), (0, .obj [.t (.v (.int .i64 t.kind)), .t (.sl t.nn (t.names.map tStr)), .t (.sl t.nl (encTys t.l)), .t (.v (.int .i64 t.r))])], 0, 2⟩) (Sub.of rfl rfl ⟨rfl, rfl, trivial⟩ ⟨rfl, rfl, trivial⟩) ?_
      refine Tri.regX mixed (by kernel_rfl) rfl rfl ?_
      repeat' (first | refine TriL.nil ?_ | exact Yes.mk rfl | refine X.nil ?_ | (apply X.a; rfl) | exact ⟨rfl, rfl, rfl⟩ | (apply U.assignT; rfl; trivial; rfl) | (apply U.load; rfl; rfl; trivial; rfl; rfl; rfl) | (apply U.fld; rfl; trivial; rfl; infer_instance; decide; rfl) | (apply U.len; rfl; trivial; rfl) | refine U.call2 rfl rfl rfl (by assumption) rfl ?_ | refine Tri.ret ?_ | fail)
      refine Comes1.ret rfl ?_
      rw [partV_eq, if_neg (by simp [hw]), if_neg hk, if_neg hk2, if_neg (by simp [h.1.2]), if_neg hk3, if_pos ?_]
      · simp only [insL, hk4, if_pos, ht0]; rfl
      · simp only [insB, hk4, if_pos, Bool.and_eq_true, decide_eq_true_eq]
        exact ⟨h.1.1, by omega⟩
    · rename_i hw hk hk2 hk3 hk4 hk5
      have hr := rest_kind hv hk0 hw hk hk2 hk3 hk4
      obtain ⟨p1, p2⟩ := plain_case hr
      refine Comes1.ret rfl ?_
      rw [partV_ps hr]
      by_cases hs0 : v.s = []
      · rw [if_neg (by simp [hs0]), if_neg ?_]
        · rfl
        have hs1 := es hs0
        have h13 := p1.1 hk5
        rw [p2 h13] at hlen2 h
        simp only [insB, if_neg hk4, if_pos h13, Bool.and_eq_true, decide_eq_true_eq]
        have := encTys_length t.l
        omega
      · rw [if_pos hs0]; rfl
    · rename_i hw hk hk2 hk3 hk4 hk5
      have hr := rest_kind hv hk0 hw hk hk2 hk3 hk4
      obtain ⟨p1, p2⟩ := plain_case hr
      have h13 := p1.1 hk5
      have hpl2 := p2 h13
      have hall := all_core t.l v.l (plainT false t).nl v.nl hb2' (by rw [hpl2] at hlen2 h; omega) fun i hi hj => by
        obtain ⟨hv0, hz0⟩ := hv.elk hk0 (by omega) (List.getElem_mem hj)
        have := ih v.l[i] t.l[i] (by have := vsize_get hi v rfl; omega) (smallVs_get (smallV_ls hs) (List.getElem?_eq_getElem hi)) hv0 hz0
        rwa [encTy_eta, encVal_eta] at this
      rw [← hpl2] at hall
      repeat' (first | refine TriL.nil ?_ | (apply U.assignT; rfl; trivial; rfl) | refine U.call2 rfl rfl rfl (by assumption) rfl ?_ | refine Tri.ret ?_ | fail)
      refine Comes1.ret rfl ?_
      rw [partV_ps hr, if_neg (by simp [h.1.2]), if_pos ?_]
      · simp only [insL, if_neg hk4, if_pos h13, hpl2]
      · rw [hpl2] at hlen2 h
        simp only [insB, if_neg hk4, if_pos h13, Bool.and_eq_true, decide_eq_true_eq]
        have := encTys_length t.l
        exact ⟨h.1.1, by omega⟩
    · rename_i hw hk hk2 hk3 hk4 hk5
      have hr := rest_kind hv hk0 hw hk hk2 hk3 hk4
      obtain ⟨p1, p2⟩ := plain_case hr
      have h13 : ¬(t.kind = 13 ∨ t.kind = 14) := fun e => hk5 (p1.2 e)
      refine Comes1.ret rfl ?_
      rw [partV_ps hr]
      by_cases hs0 : v.s = []
      · rw [if_neg (by simp [hs0]), if_neg ?_]
        · rfl
        have hs1 := es hs0
        simp only [insB, if_neg hk4, if_neg h13, if_pos (show 15 ≤ t.kind ∧ t.kind ≤ 18 by omega), Bool.and_eq_true, decide_eq_true_eq]
        omega
      · rw [if_pos hs0]; rfl
    · rename_i hw hk hk2 hk3 hk4 hk5
      have hr := rest_kind hv hk0 hw hk hk2 hk3 hk4
      obtain ⟨p1, p2⟩ := plain_case hr
      have h13 : ¬(t.kind = 13 ∨ t.kind = 14) := fun e => hk5 (p1.2 e)
      have hn0 := h.1.1
      have hn1 : v.n.toNat < (plainT false t).l.length := by omega
      have hget : (encTys (plainT false t).l)[v.n.toNat]? = some (agTy (plainT false t).l[v.n.toNat]) := by rw [encTys_get, List.getElem?_eq_getElem hn1, Option.map_some, encTy_eta]
      have hs0 := h.2
      obtain ⟨p, hp⟩ : ∃ p, p = (plainT false t).l[v.n.toNat] := ⟨_, rfl⟩
      have hcase : caseT t v.n = p := by unfold caseT; rw [List.getD_eq_getElem?_getD, List.getElem?_eq_getElem hn1, hp]; rfl
      have hB : insB t v.n v.l.length = if p.kind = 0 then decide (v.l.length = 0) else decide (v.l.length = 1) := by
        simp only [insB, if_neg hk4, if_neg h13, if_pos (show 15 ≤ t.kind ∧ t.kind ≤ 18 by omega), hcase]
        rw [decide_eq_true ⟨hn0, by omega⟩, Bool.true_and]
      have hL : insL t v.n v.l.length = if p.kind = 0 then [] else [p] := by
        simp only [insL, if_neg hk4, if_neg h13, hcase]
        by_cases e : p.kind = 0
        · rw [if_neg (by omega), if_pos e]
        · rw [if_pos ⟨by omega, by omega, hn0, by omega, e⟩, if_neg e]
      have hcut : ((encTys (plainT false t).l).drop v.n.toNat).take ((v.n + 1).toNat - v.n.toNat) = encTys [p] := by
        rw [show (v.n + 1).toNat - v.n.toNat = 1 by omega, map_typesX, List.drop_eq_getElem_cons (by simpa using hn1), List.take_succ_cons, List.take_zero, List.getElem_map, map_typesX, hp]; rfl
      have hdim := hv.dim
      have hall : p.kind ≠ 0 → v.l.length = 1 → E.Pure Tryz.prog 42 [.sl (plainT false t).nl (encTys [p]), .sl v.nl (encVals v.l)] (.one (.t (tInt (sumV v.l [p] 1)))) := fun hpk h1 => all_core [p] v.l (plainT false t).nl v.nl hb2' (by simp [h1]) fun i hi hj => by
        obtain rfl : i = 0 := by simp at hj; exact hj
        have hpv : Vd p := by
          rcases plainT_el (z := false) (t := t) (x := p) (by rw [hp]; exact List.getElem_mem hn1) with e | e
          · rw [e] at hpk; exact absurd rfl hpk
          · exact hv.el e
        have := ih v.l[0] p (by have := vsize_get hi v rfl; omega) (smallVs_get (smallV_ls hs) (List.getElem?_eq_getElem hi)) hpv hpk
        rwa [encTy_eta, encVal_eta] at this
      rw [← hcut] at hall
      rw [← hp] at hget
      have hq0 := partV_ps (v := v) hr
      rw [if_neg (by simp [hs0]), hB, hL] at hq0
      repeat' (first | refine Tri.seq ?_ | refine Tri.reg ?_ | refine TriL.nil ?_ | (apply U.assignT; rfl; trivial; rfl) | (apply U.load; rfl; rfl; trivial; rfl; rfl; rfl) | (apply U.fld; rfl; trivial; rfl; infer_instance; decide; rfl) | (apply U.bin; rfl; trivial; rfl; trivial; rfl; rfl) | (apply U.len; rfl; trivial; rfl) | (apply U.loadE; rfl; rfl; trivial; rfl; rfl) | (apply U.fldE; rfl; trivial; rfl; infer_instance; decide; rfl) | (apply U.idx; rfl; trivial; rfl; trivial; exact fun _ => (by omega); exact fun _ => (by assumption); exact fun _ => rfl; rfl) | refine Tri.skip ?_ | refine Tri.ret ?_ | (refine Tri.cond rfl (fun h => ?_) (fun h => ?_) <;> (try simp at h) <;> (try contradiction)) | fail)
      · rename_i hz
        refine Comes1.ret rfl ?_
        rw [hq0, if_pos hz, if_neg (by rw [decide_eq_true_eq]; omega)]; rfl
      · rename_i hz
        have hl0 : v.l = [] := el2 (by rw [← hlen, h]; rfl)
        refine Comes1.ret rfl ?_
        rw [hq0, if_pos hz, if_pos hz, hl0, show sumV [] [] 1 = 1 by rw [sumV]]; rfl
      · rename_i hz
        refine Comes1.ret rfl ?_
        rw [hq0, if_neg hz, if_neg (by rw [decide_eq_true_eq]; omega)]; rfl
      · rename_i hz
        have hc := hall hz (by omega)
        have h65 := (plainT_len (z := false) hdim).1
        refine Tri.sub (s2 := ⟨[(3, .ptr 1 0), (2, .ptr 0 0)], Tryz.f27.ntmps, [(1, .obj [.t (.v (.int .i64 v.n)), .t (.sl v.ns (v.s.map tInt)), .t (.sl v.nl (encVals v.l))]), (0, .obj [.t (.v (.int .i64 (plainT false t).kind)), .t (.sl (plainT false t).nn ((plainT false t).names.map tStr)), .t (.sl (plainT false t).nl (encTys (plainT false t).l)), .t (.v (.int .i64 (plainT false t).r))])], 0, 2⟩) (Sub.of rfl rfl ⟨rfl, rfl, trivial⟩ ⟨rfl, rfl, trivial⟩) ?_
        refine Tri.regX mixed (by kernel_rfl) rfl rfl ?_
        repeat' (first | (apply X.v; rfl; (focus (repeat' (first | refine TriL.nil ?_ | exact ⟨rfl, rfl, rfl⟩ | (apply U.assignT; rfl; trivial; rfl) | (apply U.load; rfl; rfl; trivial; rfl; rfl; rfl) | (apply U.fld; rfl; trivial; rfl; infer_instance; decide; rfl) | (apply U.add; rfl; trivial; rfl; trivial; exact fun _ => wrap_i64 (by omega) (by omega); rfl) | refine U.call2 rfl rfl rfl (by assumption) rfl ?_ | (apply U.cutLH; rfl; trivial; rfl; trivial; rfl; trivial; exact fun _ => (by first | omega | (simp at *; omega)); exact fun _ => (by omega); exact fun _ => (by first | omega | (simp at *; omega)); exact fun _ => (by intro i_ x_ h_; rw [encTys_get, Option.map_eq_some_iff] at h_; obtain ⟨_, _, rfl⟩ := h_; exact leaves_encTy _); rfl) | fail))); exact Yes.mk rfl) | (apply X.a; rfl; (focus (repeat' (first | refine TriL.nil ?_ | exact ⟨rfl, rfl, rfl⟩ | (apply U.assignT; rfl; trivial; rfl) | (apply U.load; rfl; rfl; trivial; rfl; rfl; rfl) | (apply U.fld; rfl; trivial; rfl; infer_instance; decide; rfl) | (apply U.add; rfl; trivial; rfl; trivial; exact fun _ => wrap_i64 (by omega) (by omega); rfl) | refine U.call2 rfl rfl rfl (by assumption) rfl ?_ | (apply U.cutLH; rfl; trivial; rfl; trivial; rfl; trivial; exact fun _ => (by first | omega | (simp at *; omega)); exact fun _ => (by omega); exact fun _ => (by first | omega | (simp at *; omega)); exact fun _ => (by intro i_ x_ h_; rw [encTys_get, Option.map_eq_some_iff] at h_; obtain ⟨_, _, rfl⟩ := h_; exact leaves_encTy _); rfl) | fail))); exact Yes.mk rfl) | refine TriL.nil ?_ | refine X.nil ?_ | exact ⟨rfl, rfl, rfl⟩ | (apply U.assignT; rfl; trivial; rfl) | (apply U.load; rfl; rfl; trivial; rfl; rfl; rfl) | (apply U.fld; rfl; trivial; rfl; infer_instance; decide; rfl) | (apply U.add; rfl; trivial; rfl; trivial; exact fun _ => wrap_i64 (by omega) (by omega); rfl) | refine U.call2 rfl rfl rfl (by assumption) rfl ?_ | refine Tri.ret ?_ | (apply U.cutLH; rfl; trivial; rfl; trivial; rfl; trivial; exact fun _ => (by first | omega | (simp at *; omega)); exact fun _ => (by omega); exact fun _ => (by first | omega | (simp at *; omega)); exact fun _ => (by intro i_ x_ h_; rw [encTys_get, Option.map_eq_some_iff] at h_; obtain ⟨_, _, rfl⟩ := h_; exact leaves_encTy _); rfl) | fail)
        refine Comes1.ret rfl ?_
        rw [hq0, if_neg hz, if_pos (by rw [decide_eq_true_eq]; omega), if_neg hz]
end Go.Proofs.YtmhbibfkhbaclaaGreatDoor

/- What a value of a type is made of: the reference's numbers. -/
namespace Go.Proofs.YtmhbibfkhbaclaaGreatDoor
open Go E
set_option maxRecDepth 100000
set_option maxHeartbeats 4000000
set_option linter.unusedVariables false
set_option linter.unusedSimpArgs false
attribute [local irreducible] Tri TriL TriO PO VO E.Pure DOb XOb
def bitsL : List T := [.v (.int .i64 0), .v (.int .i64 1), .v (.int .i64 8), .v (.int .i64 8), .v (.int .i64 16), .v (.int .i64 16), .v (.int .i64 32), .v (.int .i64 32), .v (.int .i64 64), .v (.int .i64 64)]
def bitK (k : Int) : Nat := if k = 1 then 1 else if k = 2 ∨ k = 3 then 8 else if k = 4 ∨ k = 5 then 16 else if k = 6 ∨ k = 7 then 32 else 64
theorem bits_get {k : Int} (h0 : 1 ≤ k) (h1 : k ≤ 9) : bitsL[k.toNat]? = some (.v (.int .i64 (bitK k : Nat))) := by
  have : k = 1 ∨ k = 2 ∨ k = 3 ∨ k = 4 ∨ k = 5 ∨ k = 6 ∨ k = 7 ∨ k = 8 ∨ k = 9 := by omega
  rcases this with rfl | rfl | rfl | rfl | rfl | rfl | rfl | rfl | rfl <;> rfl
def kk (k : Int) : Int := if k = 20 ∨ k = 21 then 7 else k
theorem kk_W (k : Int) : isW k = decide (1 ≤ kk k ∧ kk k ≤ 9) := by
  unfold isW kk
  rw [decide_eq_decide]
  split <;> omega
theorem kk_in (k n : Int) : inK k n = inK (kk k) n := by
  unfold kk
  split
  · rename_i h
    rcases h with rfl | rfl <;> rfl
  · rfl
def wholeN (k n : Int) : Int := if isW k = true then (if inK k n = true then 2 else 1) else 0
theorem bit_lo {K : Int} (h0 : 1 ≤ K) (h1 : K ≤ 7) : (K = 2 ∨ K = 4 ∨ K = 6 → loK K = -((2 ^ (bitK K - 1) : Nat) : Int) ∧ hiK K = ((2 ^ (bitK K - 1) : Nat) : Int) - 1) ∧ (¬(K = 2 ∨ K = 4 ∨ K = 6) → loK K = 0 ∧ hiK K = ((2 ^ bitK K : Nat) : Int) - 1) ∧ 1 ≤ bitK K ∧ bitK K ≤ 32 := by
  have : K = 1 ∨ K = 2 ∨ K = 3 ∨ K = 4 ∨ K = 5 ∨ K = 6 ∨ K = 7 := by omega
  rcases this with rfl | rfl | rfl | rfl | rfl | rfl | rfl <;> decide
theorem bit_64 {K : Int} (h0 : 1 ≤ K) (h1 : K ≤ 9) : (bitK K = 64 → 8 ≤ K) ∧ (bitK K ≠ 64 → K ≤ 7) := by
  unfold bitK
  (repeat' split) <;> omega
theorem all64 {K n : Int} (h0 : 8 ≤ K) (h1 : K ≤ 9) (hn : inI n) : inK K n = true := by
  unfold inI at hn
  have : K = 8 ∨ K = 9 := by omega
  rcases this with rfl | rfl <;> exact decide_eq_true ⟨show -9223372036854775808 ≤ n by omega, show n ≤ 9223372036854775807 by omega⟩
theorem half_neg {p q : Nat} (h : p = 2 * q) (hq : q ≤ 4294967296) : IntKind.i64.wrap ((IntKind.i64.wrap (0 - (p : Int))).tdiv 2) = -(q : Int) := by
  subst h
  have e1 : IntKind.i64.wrap (0 - ((2 * q : Nat) : Int)) = -(2 * (q : Int)) := by rw [wrap_i64 (by omega) (by omega)]; omega
  rw [e1, Int.neg_tdiv, Int.mul_tdiv_cancel_left _ (by decide)]
  exact wrap_i64 (by omega) (by omega)
theorem half_pos {p q : Nat} (h : p = 2 * q) (hq : q ≤ 4294967296) : IntKind.i64.wrap ((p : Int).tdiv 2) = (q : Int) := by
  subst h
  have e1 : ((2 * q : Nat) : Int) = 2 * (q : Int) := by omega
  rw [e1, Int.mul_tdiv_cancel_left _ (by decide)]
  exact wrap_i64 (by omega) (by omega)
theorem whole_p (k n : Int) (hn : inI n) : E.Pure Tryz.prog 34 [tInt k, tInt n] (.one (.t (tInt (wholeN k n)))) := by
  refine Pure.of1 Tryz.func34 rfl rfl (Nat.le_of_ble_eq_true rfl) rfl ?_
  repeat' (first | (apply X.v; rfl; (focus (repeat' (first | refine TriL.nil ?_ | (apply U.assignT; rfl; trivial; rfl) | fail))); exact Yes.mk rfl) | (apply X.a; rfl; (focus (repeat' (first | refine TriL.nil ?_ | (apply U.assignT; rfl; trivial; rfl) | fail))); exact Yes.mk rfl) | refine Tri.seq ?_ | refine Tri.reg ?_ | refine TriL.nil ?_ | (apply U.assignT; rfl; trivial; rfl) | fail)
  (apply U.litT; rfl; rfl; rfl; rfl; rfl; rfl; rfl; rfl)
  (apply U.assignT; rfl; trivial; rfl)
  refine TriL.nil ?_
  refine Tri.mid ⟨[(5, .t (.sl false bitsL)), (1, .t (tInt n)), (0, .t (tInt (kk k)))], Tryz.f34.ntmps, [], 0, 0⟩ ?_ ?_
  · repeat' (first | (apply X.v; rfl; (focus (repeat' (first | refine TriL.nil ?_ | (apply U.moveT; rfl; trivial; rfl) | (apply U.assignT; rfl; trivial; rfl) | (apply U.bin; rfl; trivial; rfl; trivial; rfl; rfl) | (apply U.pickb; rfl; trivial; rfl; (first | trivial | exact id | exact And.right | exact gvA | exact gvB | exact And.left | exact gvN | exact gvP2 | exact gvN2 | exact gvLA); rfl; (first | trivial | exact id | exact And.right | exact gvA | exact gvB | exact And.left | exact gvN | exact gvP2 | exact gvN2 | exact gvLA); rfl) | (apply G.moveT; rfl; (first | trivial | exact id | exact And.right | exact gvA | exact gvB | exact And.left | exact gvN | exact gvP2 | exact gvN2 | exact gvLA); rfl; rfl; rfl) | (apply G.bin; rfl; (first | trivial | exact id | exact And.right | exact gvA | exact gvB | exact And.left | exact gvN | exact gvP2 | exact gvN2 | exact gvLA); rfl; (first | trivial | exact id | exact And.right | exact gvA | exact gvB | exact And.left | exact gvN | exact gvP2 | exact gvN2 | exact gvLA); rfl; rfl; rfl; rfl) | fail))); exact Yes.mk rfl) | (apply X.a; rfl; (focus (repeat' (first | refine TriL.nil ?_ | (apply U.moveT; rfl; trivial; rfl) | (apply U.assignT; rfl; trivial; rfl) | (apply U.bin; rfl; trivial; rfl; trivial; rfl; rfl) | (apply U.pickb; rfl; trivial; rfl; (first | trivial | exact id | exact And.right | exact gvA | exact gvB | exact And.left | exact gvN | exact gvP2 | exact gvN2 | exact gvLA); rfl; (first | trivial | exact id | exact And.right | exact gvA | exact gvB | exact And.left | exact gvN | exact gvP2 | exact gvN2 | exact gvLA); rfl) | (apply G.moveT; rfl; (first | trivial | exact id | exact And.right | exact gvA | exact gvB | exact And.left | exact gvN | exact gvP2 | exact gvN2 | exact gvLA); rfl; rfl; rfl) | (apply G.bin; rfl; (first | trivial | exact id | exact And.right | exact gvA | exact gvB | exact And.left | exact gvN | exact gvP2 | exact gvN2 | exact gvLA); rfl; (first | trivial | exact id | exact And.right | exact gvA | exact gvB | exact And.left | exact gvN | exact gvP2 | exact gvN2 | exact gvLA); rfl; rfl; rfl; rfl) | fail))); exact Yes.mk rfl) | refine Tri.seq ?_ | refine Tri.reg ?_ | refine TriL.nil ?_ | (apply U.moveT; rfl; trivial; rfl) | (apply U.assignT; rfl; trivial; rfl) | (apply U.bin; rfl; trivial; rfl; trivial; rfl; rfl) | (apply U.pickb; rfl; trivial; rfl; (first | trivial | exact id | exact And.right | exact gvA | exact gvB | exact And.left | exact gvN | exact gvP2 | exact gvN2 | exact gvLA); rfl; (first | trivial | exact id | exact And.right | exact gvA | exact gvB | exact And.left | exact gvN | exact gvP2 | exact gvN2 | exact gvLA); rfl) | (apply G.moveT; rfl; (first | trivial | exact id | exact And.right | exact gvA | exact gvB | exact And.left | exact gvN | exact gvP2 | exact gvN2 | exact gvLA); rfl; rfl; rfl) | (apply G.bin; rfl; (first | trivial | exact id | exact And.right | exact gvA | exact gvB | exact And.left | exact gvN | exact gvP2 | exact gvN2 | exact gvLA); rfl; (first | trivial | exact id | exact And.right | exact gvA | exact gvB | exact And.left | exact gvN | exact gvP2 | exact gvN2 | exact gvLA); rfl; rfl; rfl; rfl) | refine Tri.skip ?_ | (refine Tri.cond rfl (fun h => ?_) (fun h => ?_) <;> (try simp at h) <;> (try contradiction)) | fail)
    · have e : kk k = 7 := if_pos h
      rw [e]
      exact Sub.of rfl rfl ⟨rfl, rfl, rfl, trivial⟩ trivial
    · have e : kk k = k := if_neg (by omega)
      rw [e]
      exact Sub.of rfl rfl ⟨rfl, rfl, rfl, trivial⟩ trivial
  · unfold wholeN
    rw [kk_W, kk_in]
    generalize kk k = K
    repeat' (first | (apply X.v; rfl; (focus (repeat' (first | refine TriL.nil ?_ | (apply U.moveT; rfl; trivial; rfl) | (apply U.assignT; rfl; trivial; rfl) | (apply U.bin; rfl; trivial; rfl; trivial; rfl; rfl) | (apply U.pickb; rfl; trivial; rfl; (first | trivial | exact id | exact And.right | exact gvA | exact gvB | exact And.left | exact gvN | exact gvP2 | exact gvN2 | exact gvLA); rfl; (first | trivial | exact id | exact And.right | exact gvA | exact gvB | exact And.left | exact gvN | exact gvP2 | exact gvN2 | exact gvLA); rfl) | (apply G.moveT; rfl; (first | trivial | exact id | exact And.right | exact gvA | exact gvB | exact And.left | exact gvN | exact gvP2 | exact gvN2 | exact gvLA); rfl; rfl; rfl) | (apply G.bin; rfl; (first | trivial | exact id | exact And.right | exact gvA | exact gvB | exact And.left | exact gvN | exact gvP2 | exact gvN2 | exact gvLA); rfl; (first | trivial | exact id | exact And.right | exact gvA | exact gvB | exact And.left | exact gvN | exact gvP2 | exact gvN2 | exact gvLA); rfl; rfl; rfl; rfl) | fail))); exact Yes.mk rfl) | (apply X.a; rfl; (focus (repeat' (first | refine TriL.nil ?_ | (apply U.moveT; rfl; trivial; rfl) | (apply U.assignT; rfl; trivial; rfl) | (apply U.bin; rfl; trivial; rfl; trivial; rfl; rfl) | (apply U.pickb; rfl; trivial; rfl; (first | trivial | exact id | exact And.right | exact gvA | exact gvB | exact And.left | exact gvN | exact gvP2 | exact gvN2 | exact gvLA); rfl; (first | trivial | exact id | exact And.right | exact gvA | exact gvB | exact And.left | exact gvN | exact gvP2 | exact gvN2 | exact gvLA); rfl) | (apply G.moveT; rfl; (first | trivial | exact id | exact And.right | exact gvA | exact gvB | exact And.left | exact gvN | exact gvP2 | exact gvN2 | exact gvLA); rfl; rfl; rfl) | (apply G.bin; rfl; (first | trivial | exact id | exact And.right | exact gvA | exact gvB | exact And.left | exact gvN | exact gvP2 | exact gvN2 | exact gvLA); rfl; (first | trivial | exact id | exact And.right | exact gvA | exact gvB | exact And.left | exact gvN | exact gvP2 | exact gvN2 | exact gvLA); rfl; rfl; rfl; rfl) | fail))); exact Yes.mk rfl) | refine Tri.seq ?_ | refine Tri.reg ?_ | refine TriL.nil ?_ | (apply U.moveT; rfl; trivial; rfl) | (apply U.assignT; rfl; trivial; rfl) | (apply U.bin; rfl; trivial; rfl; trivial; rfl; rfl) | (apply U.pickb; rfl; trivial; rfl; (first | trivial | exact id | exact And.right | exact gvA | exact gvB | exact And.left | exact gvN | exact gvP2 | exact gvN2 | exact gvLA); rfl; (first | trivial | exact id | exact And.right | exact gvA | exact gvB | exact And.left | exact gvN | exact gvP2 | exact gvN2 | exact gvLA); rfl) | (apply G.moveT; rfl; (first | trivial | exact id | exact And.right | exact gvA | exact gvB | exact And.left | exact gvN | exact gvP2 | exact gvN2 | exact gvLA); rfl; rfl; rfl) | (apply G.bin; rfl; (first | trivial | exact id | exact And.right | exact gvA | exact gvB | exact And.left | exact gvN | exact gvP2 | exact gvN2 | exact gvLA); rfl; (first | trivial | exact id | exact And.right | exact gvA | exact gvB | exact And.left | exact gvN | exact gvP2 | exact gvN2 | exact gvLA); rfl; rfl; rfl; rfl) | refine Tri.skip ?_ | refine Tri.ret ?_ | (refine Tri.cond rfl (fun h => ?_) (fun h => ?_) <;> (try simp at h) <;> (try contradiction)) | fail)
    · refine Comes1.ret rfl ?_
      rw [if_neg (by rw [decide_eq_true_eq]; omega)]; rfl
    · have hK := h
      have hget := bits_get h.1 h.2
      have hlb : bitsL.length = 10 := rfl
      have h64 := bit_64 h.1 h.2
      rw [if_pos (decide_eq_true hK)]
      repeat' (first | (apply X.v; rfl; (focus (repeat' (first | refine TriL.nil ?_ | (apply U.assignT; rfl; trivial; rfl) | (apply U.bin; rfl; trivial; rfl; trivial; rfl; rfl) | (apply U.loadE; rfl; rfl; trivial; rfl; rfl) | (apply U.idx; rfl; trivial; rfl; trivial; exact fun _ => (by omega); exact fun _ => (by assumption); exact fun _ => rfl; rfl) | fail))); exact Yes.mk rfl) | (apply X.a; rfl; (focus (repeat' (first | refine TriL.nil ?_ | (apply U.assignT; rfl; trivial; rfl) | (apply U.bin; rfl; trivial; rfl; trivial; rfl; rfl) | (apply U.loadE; rfl; rfl; trivial; rfl; rfl) | (apply U.idx; rfl; trivial; rfl; trivial; exact fun _ => (by omega); exact fun _ => (by assumption); exact fun _ => rfl; rfl) | fail))); exact Yes.mk rfl) | refine Tri.seq ?_ | refine Tri.reg ?_ | refine TriL.nil ?_ | (apply U.assignT; rfl; trivial; rfl) | (apply U.bin; rfl; trivial; rfl; trivial; rfl; rfl) | (apply U.loadE; rfl; rfl; trivial; rfl; rfl) | (apply U.idx; rfl; trivial; rfl; trivial; exact fun _ => (by omega); exact fun _ => (by assumption); exact fun _ => rfl; rfl) | refine Tri.skip ?_ | refine Tri.block ?_ | refine Tri.ret ?_ | (refine Tri.cond rfl (fun h => ?_) (fun h => ?_) <;> (try simp at h) <;> (try contradiction)) | fail)
      · refine Comes1.ret rfl ?_
        rw [if_pos (all64 (h64.1 (by omega)) hK.2 hn)]; rfl
      · have h7 := h64.2 (by omega)
        obtain ⟨b1, b2, b3, b4⟩ := bit_lo hK.1 h7
        refine Tri.loopS (α := Nat × Nat) (fun a => ⟨[(7, .t (tInt a.1)), (6, .t (tInt a.2)), (5, .t (.sl false bitsL)), (1, .t (tInt n)), (0, .t (tInt K))], Tryz.f34.ntmps, [], 0, 0⟩)
          (fun a => a.1 ≤ bitK K ∧ a.2 = 2 ^ a.1) (fun a => bitK K - a.1) (0, 1) ⟨Nat.zero_le _, rfl⟩ ?_ ?_
        · exact Sub.of rfl rfl ⟨rfl, rfl, rfl, rfl, rfl, trivial⟩ trivial
        · rintro ⟨i, p⟩ ⟨hi, hp⟩
          dsimp only at hi hp ⊢
          have hp2 : i < bitK K → p ≤ 2147483648 := fun hlt => by rw [hp]; exact Nat.le_trans (Nat.pow_le_pow_right (by decide) (show i ≤ 31 by omega)) (by decide)
          repeat' (first | (apply X.v; rfl; (focus (repeat' (first | refine TriL.nil ?_ | (apply U.moveT; rfl; trivial; rfl) | (apply U.assignT; rfl; trivial; rfl) | (apply U.add; rfl; trivial; rfl; trivial; exact fun _ => wrap_i64 (by omega) (by omega); rfl) | (apply U.mul; rfl; trivial; rfl; trivial; exact fun _ => (by first | assumption | exact wrap_i64 (by omega) (by omega)); rfl) | (apply U.bin; rfl; trivial; rfl; trivial; rfl; rfl) | (apply U.loadE; rfl; rfl; trivial; rfl; rfl) | (apply U.pickb; rfl; trivial; rfl; (first | trivial | exact id | exact And.right | exact gvA | exact gvB | exact And.left | exact gvN | exact gvP2 | exact gvN2 | exact gvLA); rfl; (first | trivial | exact id | exact And.right | exact gvA | exact gvB | exact And.left | exact gvN | exact gvP2 | exact gvN2 | exact gvLA); rfl) | (apply U.idx; rfl; trivial; rfl; trivial; exact fun _ => (by omega); exact fun _ => (by assumption); exact fun _ => rfl; rfl) | (apply G.moveT; rfl; (first | trivial | exact id | exact And.right | exact gvA | exact gvB | exact And.left | exact gvN | exact gvP2 | exact gvN2 | exact gvLA); rfl; rfl; rfl) | (apply G.bin; rfl; (first | trivial | exact id | exact And.right | exact gvA | exact gvB | exact And.left | exact gvN | exact gvP2 | exact gvN2 | exact gvLA); rfl; (first | trivial | exact id | exact And.right | exact gvA | exact gvB | exact And.left | exact gvN | exact gvP2 | exact gvN2 | exact gvLA); rfl; rfl; rfl; rfl) | (apply U.neg; rfl; trivial; rfl) | fail))); exact Yes.mk rfl) | (apply X.a; rfl; (focus (repeat' (first | refine TriL.nil ?_ | (apply U.moveT; rfl; trivial; rfl) | (apply U.assignT; rfl; trivial; rfl) | (apply U.add; rfl; trivial; rfl; trivial; exact fun _ => wrap_i64 (by omega) (by omega); rfl) | (apply U.mul; rfl; trivial; rfl; trivial; exact fun _ => (by first | assumption | exact wrap_i64 (by omega) (by omega)); rfl) | (apply U.bin; rfl; trivial; rfl; trivial; rfl; rfl) | (apply U.loadE; rfl; rfl; trivial; rfl; rfl) | (apply U.pickb; rfl; trivial; rfl; (first | trivial | exact id | exact And.right | exact gvA | exact gvB | exact And.left | exact gvN | exact gvP2 | exact gvN2 | exact gvLA); rfl; (first | trivial | exact id | exact And.right | exact gvA | exact gvB | exact And.left | exact gvN | exact gvP2 | exact gvN2 | exact gvLA); rfl) | (apply U.idx; rfl; trivial; rfl; trivial; exact fun _ => (by omega); exact fun _ => (by assumption); exact fun _ => rfl; rfl) | (apply G.moveT; rfl; (first | trivial | exact id | exact And.right | exact gvA | exact gvB | exact And.left | exact gvN | exact gvP2 | exact gvN2 | exact gvLA); rfl; rfl; rfl) | (apply G.bin; rfl; (first | trivial | exact id | exact And.right | exact gvA | exact gvB | exact And.left | exact gvN | exact gvP2 | exact gvN2 | exact gvLA); rfl; (first | trivial | exact id | exact And.right | exact gvA | exact gvB | exact And.left | exact gvN | exact gvP2 | exact gvN2 | exact gvLA); rfl; rfl; rfl; rfl) | (apply U.neg; rfl; trivial; rfl) | fail))); exact Yes.mk rfl) | refine Tri.seq ?_ | refine Tri.reg ?_ | refine TriL.nil ?_ | (apply U.moveT; rfl; trivial; rfl) | (apply U.assignT; rfl; trivial; rfl) | (apply U.add; rfl; trivial; rfl; trivial; exact fun _ => wrap_i64 (by omega) (by omega); rfl) | (apply U.mul; rfl; trivial; rfl; trivial; exact fun _ => (by first | assumption | exact wrap_i64 (by omega) (by omega)); rfl) | (apply U.bin; rfl; trivial; rfl; trivial; rfl; rfl) | (apply U.loadE; rfl; rfl; trivial; rfl; rfl) | (apply U.pickb; rfl; trivial; rfl; (first | trivial | exact id | exact And.right | exact gvA | exact gvB | exact And.left | exact gvN | exact gvP2 | exact gvN2 | exact gvLA); rfl; (first | trivial | exact id | exact And.right | exact gvA | exact gvB | exact And.left | exact gvN | exact gvP2 | exact gvN2 | exact gvLA); rfl) | (apply U.idx; rfl; trivial; rfl; trivial; exact fun _ => (by omega); exact fun _ => (by assumption); exact fun _ => rfl; rfl) | (apply G.moveT; rfl; (first | trivial | exact id | exact And.right | exact gvA | exact gvB | exact And.left | exact gvN | exact gvP2 | exact gvN2 | exact gvLA); rfl; rfl; rfl) | (apply G.bin; rfl; (first | trivial | exact id | exact And.right | exact gvA | exact gvB | exact And.left | exact gvN | exact gvP2 | exact gvN2 | exact gvLA); rfl; (first | trivial | exact id | exact And.right | exact gvA | exact gvB | exact And.left | exact gvN | exact gvP2 | exact gvN2 | exact gvLA); rfl; rfl; rfl; rfl) | refine Tri.skip ?_ | refine Tri.block ?_ | refine Tri.exit ?_ | refine Tri.ret ?_ | (apply U.neg; rfl; trivial; rfl) | (refine Tri.cond rfl (fun h => ?_) (fun h => ?_) <;> (try simp at h) <;> (try contradiction)) | fail)
          · have hlt : i < bitK K := by omega
            refine ⟨(i + 1, p * 2), ⟨by dsimp only; omega, ?_⟩, by dsimp only; omega, Sub.of rfl rfl ⟨rfl, rfl, rfl, rfl, rfl, trivial⟩ trivial⟩
            dsimp only
            rw [hp, Nat.pow_succ]
          all_goals
            have hib : i = bitK K := by omega
            obtain ⟨q, hq⟩ : ∃ q, q = 2 ^ (bitK K - 1) := ⟨_, rfl⟩
            have hpq : p = 2 * q := by rw [hp, hib, hq, ← Nat.pow_succ', show (bitK K - 1).succ = bitK K by omega]
            have hq2 : q ≤ 4294967296 := by rw [hq]; exact Nat.le_trans (Nat.pow_le_pow_right (by decide) (show bitK K - 1 ≤ 32 by omega)) (by decide)
            have e1 := half_neg hpq hq2
            have e2 := half_pos hpq hq2
            rw [← hq] at b1
            rw [← hib, ← hp] at b2
            have e3 : IntKind.i64.wrap ((IntKind.i64.wrap (-(p : Int))).tdiv 2) = -(q : Int) := by rw [← e1, Int.zero_sub]
            have e4 : IntKind.i64.wrap ((p : Int) / 2) = (q : Int) := by rw [← e2, Int.tdiv_eq_ediv_of_nonneg (by omega)]
            try rw [e3, e4] at h
          · rename_i hk
            obtain ⟨c1, c2⟩ := b1 (by omega)
            refine Comes1.ret rfl ?_
            rw [if_pos (show inK K n = true from decide_eq_true (by omega))]; rfl
          · rename_i hk
            obtain ⟨c1, c2⟩ := b1 (by omega)
            refine Comes1.ret rfl ?_
            rw [if_neg (by unfold inK; rw [decide_eq_true_eq]; omega)]; rfl
          · rename_i hk
            obtain ⟨c1, c2⟩ := b2 (by omega)
            refine Comes1.ret rfl ?_
            rw [if_pos (show inK K n = true from decide_eq_true (by omega))]; rfl
          · rename_i hk
            obtain ⟨c1, c2⟩ := b2 (by omega)
            refine Comes1.ret rfl ?_
            rw [if_neg (by unfold inK; rw [decide_eq_true_eq]; omega)]; rfl
end Go.Proofs.YtmhbibfkhbaclaaGreatDoor

/- What a value of a type is made of: the reference's. -/
namespace Go.Proofs.YtmhbibfkhbaclaaGreatDoor
open Go E
set_option maxRecDepth 100000
set_option maxHeartbeats 4000000
set_option linter.unusedVariables false
set_option linter.unusedSimpArgs false
attribute [local irreducible] Tri TriL TriO PO VO E.Pure DOb XOb
theorem scalarR_p (p : Int) : E.Pure Tryz.prog 35 [tInt p] (.one (.t (tBool (scalarB p)))) := by
  refine Pure.of1 Tryz.func35 rfl rfl (Nat.le_of_ble_eq_true rfl) rfl ?_
  repeat' (first | refine Tri.seq ?_ | refine Tri.reg ?_ | refine TriL.nil ?_ | (apply U.moveT; rfl; trivial; rfl) | (apply U.assignT; rfl; trivial; rfl) | (apply U.bin; rfl; trivial; rfl; trivial; rfl; rfl) | (apply U.pickb; rfl; trivial; rfl; (first | trivial | exact id | exact And.right | exact gvA | exact gvB | exact And.left | exact gvN | exact gvP2 | exact gvN2 | exact gvLA); rfl; (first | trivial | exact id | exact And.right | exact gvA | exact gvB | exact And.left | exact gvN | exact gvP2 | exact gvN2 | exact gvLA); rfl) | (apply G.moveT; rfl; (first | trivial | exact id | exact And.right | exact gvA | exact gvB | exact And.left | exact gvN | exact gvP2 | exact gvN2 | exact gvLA); rfl; rfl; rfl) | (apply G.bin; rfl; (first | trivial | exact id | exact And.right | exact gvA | exact gvB | exact And.left | exact gvN | exact gvP2 | exact gvN2 | exact gvLA); rfl; (first | trivial | exact id | exact And.right | exact gvA | exact gvB | exact And.left | exact gvN | exact gvP2 | exact gvN2 | exact gvLA); rfl; rfl; rfl; rfl) | (apply G.pickb; rfl; (first | trivial | exact id | exact And.right | exact gvA | exact gvB | exact And.left | exact gvN | exact gvP2 | exact gvN2 | exact gvLA); rfl; (first | trivial | exact id | exact And.right | exact gvA | exact gvB | exact And.left | exact gvN | exact gvP2 | exact gvN2 | exact gvLA); rfl; (first | trivial | exact id | exact And.right | exact gvA | exact gvB | exact And.left | exact gvN | exact gvP2 | exact gvN2 | exact gvLA); rfl; rfl; rfl) | refine Tri.ret ?_ | fail)
  refine Comes1.ret rfl (retB ?_)
  rw [Bool.eq_iff_iff]
  simp [scalarB]
  omega
theorem Rets.frozE {s : St} {b e off len cap : Nat} {ys zs : List T} {fz : Bool} {ps : List PV} {rs : List R1} (hb : E.look b s.heap = some (.row e ys fz)) (hl : off + len ≤ ys.length) (he : (ys.drop off).take len = zs) (k : Rets (s.upd b (.row e ys true)) ps rs) :
    Rets s (.ref b e off len cap :: ps) (.t (.sl false zs) :: rs) := by
  subst he; exact .froz hb hl k
theorem c2b {t u : Tmp} {e : Ex} {s : St} {x : T} {b c : Bool} (he : e = .normal ∨ e = .ret) (h1 : (s.ev (.tmp t)).toT = some x) (h2 : (s.ev (.tmp u)).toT = some (.v (.bool b))) (h : b = c) : Comes2 t u x (tBool c) e s := by
  subst h; exact .trees he h1 h2
theorem c2r {t u : Tmp} {e : Ex} {s : St} {b ee len cap : Nat} {ys zs : List T} {fz bb c : Bool} (he : e = .normal ∨ e = .ret) (h1 : s.ev (.tmp t) = .ref b ee 0 len cap) (hb : E.look b s.heap = some (.row ee ys fz)) (hl : len ≤ ys.length) (hz : ys.take len = zs)
    (h2 : (s.ev (.tmp u)).toT = some (.v (.bool bb))) (h : bb = c) : Comes2 t u (.sl false zs) (tBool c) e s := by
  subst h
  refine ⟨he, ?_⟩
  rw [h1]
  exact Rets.frozE hb (by omega) (by simpa using hz) (.tree h2 .nil)
/-- What the reference says is within; is the list nil? -/
def insR (t : Ty) (n : Int) (m : Nat) : List Ty := if t.kind = 12 then List.replicate (min m 1001) (t.l.getD 0 ty0) else insL t n m
def insN (t : Ty) (n : Int) (m : Nat) : Bool := if t.kind = 13 ∨ t.kind = 14 then t.nl else (insR t n m).isEmpty
theorem insR_ok {t : Ty} {n : Int} {m : Nat} (h : insB t n m = true) : insR t n m = insL t n m := by
  unfold insR
  split
  · rename_i h12
    simp only [insB, h12, if_pos, Bool.and_eq_true, decide_eq_true_eq] at h
    simp only [insL, h12, if_pos]
    rw [Nat.min_eq_left (by omega)]
  · rfl
theorem plain_l (t : Ty) : (plainT true t).l = (plainT false t).l := by
  unfold plainT
  (repeat' split) <;> rfl
theorem insideR_p (t : Ty) (v : Val) (hs : smallV v) (hv : Vd t) (hk0 : t.kind ≠ 0) : E.Pure Tryz.prog 25 [encTy t, encVal v] (.tup [.t (.sl (insN t v.n v.l.length) (encTys (insR t v.n v.l.length))), .t (tBool (insB t v.n v.l.length))]) := by
  have hb2 := smallV_l hs
  have hpl := plainR_p t hv.dim.nm hv.dim.l
  unfold big at hb2
  have hlen := encVals_length v.l
  have hlen2 := encTys_length t.l
  have hlen3 := encTys_length (plainT true t).l
  refine Pure.of2 Tryz.func25 rfl rfl (Nat.le_of_ble_eq_true rfl) rfl ?_
  rw [encTy_eta, encTy_eta (plainT true t)] at hpl
  rw [encTy_eta, encVal_eta]
  repeat' (first | refine Tri.seq ?_ | refine Tri.reg ?_ | refine TriL.nil ?_ | (apply U.moveT; rfl; trivial; rfl) | (apply U.assignT; rfl; trivial; rfl) | (apply U.load; rfl; rfl; trivial; rfl; rfl; rfl) | (apply U.fld; rfl; trivial; rfl; infer_instance; decide; rfl) | (apply U.bin; rfl; trivial; rfl; trivial; rfl; rfl) | (apply U.loadS; rfl; rfl; trivial; rfl; rfl; rfl; rfl; rfl) | (apply U.pickb; rfl; trivial; rfl; (first | trivial | exact id | exact And.right | exact gvA | exact gvB | exact And.left | exact gvN | exact gvP2 | exact gvN2 | exact gvLA); rfl; (first | trivial | exact id | exact And.right | exact gvA | exact gvB | exact And.left | exact gvN | exact gvP2 | exact gvN2 | exact gvLA); rfl) | (apply U.boxA; rfl; rfl) | (apply U.alloc; rfl; rfl; rfl; rfl) | (apply U.storeS; rfl; rfl; rfl; rfl; rfl; rfl; rfl; rfl) | (apply G.load; rfl; rfl; (first | trivial | exact id | exact And.right | exact gvA | exact gvB | exact And.left | exact gvN | exact gvP2 | exact gvN2 | exact gvLA); rfl; rfl; rfl; rfl; rfl) | (apply G.fld; rfl; (first | trivial | exact id | exact And.right | exact gvA | exact gvB | exact And.left | exact gvN | exact gvP2 | exact gvN2 | exact gvLA); rfl; infer_instance; decide; rfl; rfl; rfl) | (apply G.bin; rfl; (first | trivial | exact id | exact And.right | exact gvA | exact gvB | exact And.left | exact gvN | exact gvP2 | exact gvN2 | exact gvLA); rfl; (first | trivial | exact id | exact And.right | exact gvA | exact gvB | exact And.left | exact gvN | exact gvP2 | exact gvN2 | exact gvLA); rfl; rfl; rfl; rfl) | (apply G.len; rfl; (first | trivial | exact id | exact And.right | exact gvA | exact gvB | exact And.left | exact gvN | exact gvP2 | exact gvN2 | exact gvLA); rfl; rfl; rfl) | refine U.call1 rfl rfl (by assumption) rfl ?_ | refine Tri.skip ?_ | refine Tri.block ?_ | refine Tri.ret ?_ | (refine Tri.cond rfl (fun h => ?_) (fun h => ?_) <;> (try simp at h) <;> (try contradiction)) | fail)
  · -- a list
    have h12 := h
    have hl1 := own12 (hv.own hk0) h12
    obtain ⟨t0, ht0⟩ := List.length_eq_one_iff.1 hl1
    have hget : (encTys t.l)[((0 : Int)).toNat]? = some (agTy t0) := by rw [ht0]; simp [encTys, encTy_eta]
    have eR : insR t v.n v.l.length = List.replicate (min v.l.length 1001) t0 := by unfold insR; rw [if_pos h12, ht0]; rfl
    have eN : insN t v.n v.l.length = (List.replicate (min v.l.length 1001) t0).isEmpty := by unfold insN; rw [if_neg (by omega), eR]
    have eB : insB t v.n v.l.length = (decide (v.n = 0) && decide (v.l.length ≤ 1000)) := by unfold insB; rw [if_pos h12]
    rw [eR, eN, eB]
    refine Tri.loopL (fun i => match i with
        | 0 => ⟨[(7, .t (tInt ((0 : Nat) : Int))), (6, .t (.sl true [])), (3, .ptr 1 0), (2, .ptr 0 0)], Tryz.f25.ntmps, [(1, .obj [.t (.v (.int .i64 v.n)), .t (.sl v.ns (v.s.map tInt)), .t (.sl v.nl (encVals v.l))]), (0, .obj [.t (.v (.int .i64 t.kind)), .t (.sl t.nn (t.names.map tStr)), .t (.sl t.nl (encTys t.l)), .t (.v (.int .i64 t.r))])], 0, 2⟩
        | k + 1 => ⟨[(7, .t (tInt ((k + 1 : Nat) : Int))), (6, .ref 2 4 0 (k + 1) (k + 1)), (3, .ptr 1 0), (2, .ptr 0 0)], Tryz.f25.ntmps, [(1, .obj [.t (.v (.int .i64 v.n)), .t (.sl v.ns (v.s.map tInt)), .t (.sl v.nl (encVals v.l))]), (0, .obj [.t (.v (.int .i64 t.kind)), .t (.sl t.nn (t.names.map tStr)), .t (.sl t.nl (encTys t.l)), .t (.v (.int .i64 t.r))]), (2, .row 4 (List.replicate (k + 1) (agTy t0)) false)], 0, 3⟩)
      (fun i => i ≤ min v.l.length 1001) (fun i => min v.l.length 1001 - i) 0 (Nat.zero_le _) ?_ ?_
    · exact Sub.less (Sub.of rfl rfl ⟨rfl, rfl, rfl, rfl, trivial⟩ ⟨rfl, rfl, trivial⟩)
    rintro (_ | k) hi
    · repeat' (first | refine Tri.seq ?_ | refine Tri.reg ?_ | refine TriL.nil ?_ | (apply U.moveT; rfl; trivial; rfl) | (apply U.load; rfl; rfl; trivial; rfl; rfl; rfl) | (apply U.fld; rfl; trivial; rfl; infer_instance; decide; rfl) | (apply U.bin; rfl; trivial; rfl; trivial; rfl; rfl) | (apply U.len; rfl; trivial; rfl) | (apply U.loadES; rfl; rfl; trivial; rfl; rfl; rfl) | (apply U.pickb; rfl; trivial; rfl; (first | trivial | exact id | exact And.right | exact gvA | exact gvB | exact And.left | exact gvN | exact gvP2 | exact gvN2 | exact gvLA); rfl; (first | trivial | exact id | exact And.right | exact gvA | exact gvB | exact And.left | exact gvN | exact gvP2 | exact gvN2 | exact gvLA); rfl) | (apply U.idx; rfl; trivial; rfl; trivial; exact fun _ => (by omega); exact fun _ => (by assumption); exact fun _ => rfl; rfl) | (apply G.moveT; rfl; (first | trivial | exact id | exact And.right | exact gvA | exact gvB | exact And.left | exact gvN | exact gvP2 | exact gvN2 | exact gvLA); rfl; rfl; rfl) | (apply G.bin; rfl; (first | trivial | exact id | exact And.right | exact gvA | exact gvB | exact And.left | exact gvN | exact gvP2 | exact gvN2 | exact gvLA); rfl; (first | trivial | exact id | exact And.right | exact gvA | exact gvB | exact And.left | exact gvN | exact gvP2 | exact gvN2 | exact gvLA); rfl; rfl; rfl; rfl) | refine Tri.skip ?_ | refine Tri.block ?_ | refine Tri.exit ?_ | (refine Tri.cond rfl (fun h => ?_) (fun h => ?_) <;> (try simp at h) <;> (try contradiction)) | fail)
      · (apply U.litT; rfl; rfl; rfl; rfl; rfl; rfl; rfl; rfl)
        skip
        refine U.appNil rfl (SrcE.t rfl rfl) Nat.zero_lt_one (Nat.le_of_ble_eq_true rfl) (Nat.le_of_ble_eq_true rfl) rfl ?_
        repeat' (first | refine Tri.reg ?_ | refine TriL.nil ?_ | (apply U.moveT; rfl; trivial; rfl) | (apply U.assignT; rfl; trivial; rfl) | (apply U.assignR; rfl; trivial; rfl) | (apply U.add; rfl; trivial; rfl; trivial; exact fun _ => wrap_i64 (by omega) (by omega); rfl) | fail)
        exact ⟨0 + 1, by omega, by omega, Less.ren (fun b => b) rfl rfl ⟨rfl, rfl, rfl, rfl, trivial⟩ ⟨rfl, rfl, rfl, trivial⟩ rfl rfl rfl⟩
      · have hm : v.l.length = 0 := by rw [← hlen, h]; rfl
        rw [hm]
        refine Tri.sub (s2 := ⟨[(6, .t (.sl true [])), (3, .ptr 1 0), (2, .ptr 0 0)], Tryz.f25.ntmps, [(1, .obj [.t (.v (.int .i64 v.n)), .t (.sl v.ns (v.s.map tInt)), .t (.sl v.nl (encVals v.l))]), (0, .obj [.t (.v (.int .i64 t.kind)), .t (.sl t.nn (t.names.map tStr)), .t (.sl t.nl (encTys t.l)), .t (.v (.int .i64 t.r))])], 0, 2⟩) (Sub.of rfl rfl ⟨rfl, rfl, rfl, trivial⟩ ⟨rfl, rfl, trivial⟩) ?_
        refine Tri.regX mixed (by kernel_rfl) rfl rfl ?_
        repeat' (first | refine TriL.nil ?_ | exact Yes.mk rfl | refine X.nil ?_ | (apply X.a; rfl) | exact ⟨rfl, rfl, rfl⟩ | (apply U.moveT; rfl; trivial; rfl) | (apply U.assignT; rfl; trivial; rfl) | (apply U.load; rfl; rfl; trivial; rfl; rfl; rfl) | (apply U.fld; rfl; trivial; rfl; infer_instance; decide; rfl) | (apply U.bin; rfl; trivial; rfl; trivial; rfl; rfl) | (apply U.pickb; rfl; trivial; rfl; (first | trivial | exact id | exact And.right | exact gvA | exact gvB | exact And.left | exact gvN | exact gvP2 | exact gvN2 | exact gvLA); rfl; (first | trivial | exact id | exact And.right | exact gvA | exact gvB | exact And.left | exact gvN | exact gvP2 | exact gvN2 | exact gvLA); rfl) | (apply G.load; rfl; rfl; (first | trivial | exact id | exact And.right | exact gvA | exact gvB | exact And.left | exact gvN | exact gvP2 | exact gvN2 | exact gvLA); rfl; rfl; rfl; rfl; rfl) | (apply G.fld; rfl; (first | trivial | exact id | exact And.right | exact gvA | exact gvB | exact And.left | exact gvN | exact gvP2 | exact gvN2 | exact gvLA); rfl; infer_instance; decide; rfl; rfl; rfl) | (apply G.bin; rfl; (first | trivial | exact id | exact And.right | exact gvA | exact gvB | exact And.left | exact gvN | exact gvP2 | exact gvN2 | exact gvLA); rfl; (first | trivial | exact id | exact And.right | exact gvA | exact gvB | exact And.left | exact gvN | exact gvP2 | exact gvN2 | exact gvLA); rfl; rfl; rfl; rfl) | (apply G.len; rfl; (first | trivial | exact id | exact And.right | exact gvA | exact gvB | exact And.left | exact gvN | exact gvP2 | exact gvN2 | exact gvLA); rfl; rfl; rfl) | refine Tri.ret ?_ | fail)
        exact c2b (.inr rfl) rfl rfl (by rw [hlen, hm]; by_cases e : v.n = 0 <;> simp [e])
    · repeat' (first | refine Tri.seq ?_ | refine Tri.reg ?_ | refine TriL.nil ?_ | (apply U.moveT; rfl; trivial; rfl) | (apply U.moveR; rfl; trivial; rfl) | (apply U.load; rfl; rfl; trivial; rfl; rfl; rfl) | (apply U.fld; rfl; trivial; rfl; infer_instance; decide; rfl) | (apply U.bin; rfl; trivial; rfl; trivial; rfl; rfl) | (apply U.len; rfl; trivial; rfl) | (apply U.loadES; rfl; rfl; trivial; rfl; rfl; rfl) | (apply U.pickb; rfl; trivial; rfl; (first | trivial | exact id | exact And.right | exact gvA | exact gvB | exact And.left | exact gvN | exact gvP2 | exact gvN2 | exact gvLA); rfl; (first | trivial | exact id | exact And.right | exact gvA | exact gvB | exact And.left | exact gvN | exact gvP2 | exact gvN2 | exact gvLA); rfl) | (apply U.idx; rfl; trivial; rfl; trivial; exact fun _ => (by omega); exact fun _ => (by assumption); exact fun _ => rfl; rfl) | (apply G.moveT; rfl; (first | trivial | exact id | exact And.right | exact gvA | exact gvB | exact And.left | exact gvN | exact gvP2 | exact gvN2 | exact gvLA); rfl; rfl; rfl) | (apply G.bin; rfl; (first | trivial | exact id | exact And.right | exact gvA | exact gvB | exact And.left | exact gvN | exact gvP2 | exact gvN2 | exact gvLA); rfl; (first | trivial | exact id | exact And.right | exact gvA | exact gvB | exact And.left | exact gvN | exact gvP2 | exact gvN2 | exact gvLA); rfl; rfl; rfl; rfl) | refine Tri.skip ?_ | refine Tri.block ?_ | refine Tri.exit ?_ | (refine Tri.cond rfl (fun h => ?_) (fun h => ?_) <;> (try simp at h) <;> (try contradiction)) | fail)
      · (apply U.litT; rfl; rfl; rfl; rfl; rfl; rfl; rfl; rfl)
        skip
        refine U.appOwn rfl rfl (by simp) (by simp) (SrcE.t rfl rfl) (by simp; omega) (by simp; omega) rfl ?_
        repeat' (first | refine Tri.reg ?_ | refine TriL.nil ?_ | (apply U.moveT; rfl; trivial; rfl) | (apply U.assignT; rfl; trivial; rfl) | (apply U.assignR; rfl; trivial; rfl) | (apply U.add; rfl; trivial; rfl; trivial; exact fun _ => wrap_i64 (by omega) (by omega); rfl) | fail)
        refine ⟨k + 1 + 1, by omega, by omega, ?_⟩
        refine Less.ren (fun b => if b = 2 then 3 else b) rfl rfl ⟨rfl, rfl, rfl, rfl, trivial⟩ ⟨rfl, rfl, ?_, trivial⟩ rfl rfl rfl
        rw [List.replicate_succ' (n := k + 1)]; rfl
      · have hm : min v.l.length 1001 = k + 1 := by omega
        rw [hm]
        refine Tri.sub (s2 := ⟨[(6, .ref 2 4 0 (k + 1) (k + 1)), (3, .ptr 1 0), (2, .ptr 0 0)], Tryz.f25.ntmps, [(1, .obj [.t (.v (.int .i64 v.n)), .t (.sl v.ns (v.s.map tInt)), .t (.sl v.nl (encVals v.l))]), (0, .obj [.t (.v (.int .i64 t.kind)), .t (.sl t.nn (t.names.map tStr)), .t (.sl t.nl (encTys t.l)), .t (.v (.int .i64 t.r))]), (2, .row 4 (List.replicate (k + 1) (agTy t0)) false)], 0, 3⟩) (Sub.of rfl rfl ⟨rfl, rfl, rfl, trivial⟩ ⟨rfl, rfl, rfl, trivial⟩) ?_
        refine Tri.regX mixed (by kernel_rfl) rfl rfl ?_
        repeat' (first | refine TriL.nil ?_ | exact Yes.mk rfl | refine X.nil ?_ | (apply X.a; rfl) | exact ⟨rfl, rfl, rfl⟩ | (apply U.moveT; rfl; trivial; rfl) | (apply U.assignT; rfl; trivial; rfl) | (apply U.moveR; rfl; trivial; rfl) | (apply U.assignR; rfl; trivial; rfl) | (apply U.load; rfl; rfl; trivial; rfl; rfl; rfl) | (apply U.fld; rfl; trivial; rfl; infer_instance; decide; rfl) | (apply U.bin; rfl; trivial; rfl; trivial; rfl; rfl) | (apply U.pickb; rfl; trivial; rfl; (first | trivial | exact id | exact And.right | exact gvA | exact gvB | exact And.left | exact gvN | exact gvP2 | exact gvN2 | exact gvLA); rfl; (first | trivial | exact id | exact And.right | exact gvA | exact gvB | exact And.left | exact gvN | exact gvP2 | exact gvN2 | exact gvLA); rfl) | (apply G.load; rfl; rfl; (first | trivial | exact id | exact And.right | exact gvA | exact gvB | exact And.left | exact gvN | exact gvP2 | exact gvN2 | exact gvLA); rfl; rfl; rfl; rfl; rfl) | (apply G.fld; rfl; (first | trivial | exact id | exact And.right | exact gvA | exact gvB | exact And.left | exact gvN | exact gvP2 | exact gvN2 | exact gvLA); rfl; infer_instance; decide; rfl; rfl; rfl) | (apply G.bin; rfl; (first | trivial | exact id | exact And.right | exact gvA | exact gvB | exact And.left | exact gvN | exact gvP2 | exact gvN2 | exact gvLA); rfl; (first | trivial | exact id | exact And.right | exact gvA | exact gvB | exact And.left | exact gvN | exact gvP2 | exact gvN2 | exact gvLA); rfl; rfl; rfl; rfl) | (apply G.len; rfl; (first | trivial | exact id | exact And.right | exact gvA | exact gvB | exact And.left | exact gvN | exact gvP2 | exact gvN2 | exact gvLA); rfl; rfl; rfl) | refine Tri.ret ?_ | fail)
        exact c2r (.inr rfl) rfl rfl (by simp) (by rw [List.take_of_length_le (by simp), encTys_rep, encTy_eta]) rfl (by rw [hlen]; by_cases e : v.n = 0 <;> simp [e] <;> omega)
  · -- a record, a tuple
    rename_i h12
    have h13 := h
    have eR : insR t v.n v.l.length = t.l := by unfold insR insL; rw [if_neg h12, if_neg h12, if_pos h13]
    have eN : insN t v.n v.l.length = t.nl := by unfold insN; rw [if_pos h13]
    have eB : insB t v.n v.l.length = (decide (v.n = 0) && decide (v.l.length = t.l.length)) := by unfold insB; rw [if_neg h12, if_pos h13]
    rw [eR, eN, eB]
    refine Tri.sub (s2 := ⟨[(3, .ptr 1 0), (2, .ptr 0 0)], Tryz.f25.ntmps, [(1, .obj [.t (.v (.int .i64 v.n)), .t (.sl v.ns (v.s.map tInt)), .t (.sl v.nl (encVals v.l))]), (0, .obj [.t (.v (.int .i64 t.kind)), .t (.sl t.nn (t.names.map tStr)), .t (.sl t.nl (encTys t.l)), .t (.v (.int .i64 t.r))])], 0, 2⟩) (Sub.of rfl rfl ⟨rfl, rfl, trivial⟩ ⟨rfl, rfl, trivial⟩) ?_
    refine Tri.regX mixed (by kernel_rfl) rfl rfl ?_
    repeat' (first | refine TriL.nil ?_ | exact Yes.mk rfl | refine X.nil ?_ | (apply X.a; rfl) | exact ⟨rfl, rfl, rfl⟩ | (apply U.moveT; rfl; trivial; rfl) | (apply U.assignT; rfl; trivial; rfl) | (apply U.load; rfl; rfl; trivial; rfl; rfl; rfl) | (apply U.fld; rfl; trivial; rfl; infer_instance; decide; rfl) | (apply U.bin; rfl; trivial; rfl; trivial; rfl; rfl) | (apply U.pickb; rfl; trivial; rfl; (first | trivial | exact id | exact And.right | exact gvA | exact gvB | exact And.left | exact gvN | exact gvP2 | exact gvN2 | exact gvLA); rfl; (first | trivial | exact id | exact And.right | exact gvA | exact gvB | exact And.left | exact gvN | exact gvP2 | exact gvN2 | exact gvLA); rfl) | (apply G.load; rfl; rfl; (first | trivial | exact id | exact And.right | exact gvA | exact gvB | exact And.left | exact gvN | exact gvP2 | exact gvN2 | exact gvLA); rfl; rfl; rfl; rfl; rfl) | (apply G.fld; rfl; (first | trivial | exact id | exact And.right | exact gvA | exact gvB | exact And.left | exact gvN | exact gvP2 | exact gvN2 | exact gvLA); rfl; infer_instance; decide; rfl; rfl; rfl) | (apply G.bin; rfl; (first | trivial | exact id | exact And.right | exact gvA | exact gvB | exact And.left | exact gvN | exact gvP2 | exact gvN2 | exact gvLA); rfl; (first | trivial | exact id | exact And.right | exact gvA | exact gvB | exact And.left | exact gvN | exact gvP2 | exact gvN2 | exact gvLA); rfl; rfl; rfl; rfl) | (apply G.len; rfl; (first | trivial | exact id | exact And.right | exact gvA | exact gvB | exact And.left | exact gvN | exact gvP2 | exact gvN2 | exact gvLA); rfl; rfl; rfl) | refine Tri.ret ?_ | fail)
    exact c2b (.inr rfl) rfl rfl (by rw [hlen, hlen2]; by_cases e : v.n = 0 <;> simp [e] <;> omega)
  · rename_i h12 h13 h15
    rw [plain_l] at h hlen3
    have hc : ¬(15 ≤ t.kind ∧ t.kind ≤ 18 ∧ 0 ≤ v.n ∧ v.n < ((plainT false t).l.length : Int) ∧ (caseT t v.n).kind ≠ 0) := by omega
    have eR : insR t v.n v.l.length = [] := by unfold insR insL; rw [if_neg h12, if_neg h12, if_neg (by omega), if_neg hc]
    have eN : insN t v.n v.l.length = true := by unfold insN; rw [if_neg (by omega), eR]; rfl
    have eB : insB t v.n v.l.length = false := by unfold insB; rw [if_neg h12, if_neg (by omega), if_pos h15, decide_eq_false (by omega)]; rfl
    rw [eR, eN, eB]
    exact Comes2.trees (.inr rfl) rfl rfl
  · rename_i h12 h13 h15
    rw [plain_l] at hlen3
    have hn0 := h.1
    have hn1 : v.n.toNat < (plainT false t).l.length := by have := h.2; rw [plain_l] at this; omega
    obtain ⟨p, hp⟩ : ∃ p, p = (plainT false t).l[v.n.toNat] := ⟨_, rfl⟩
    have hget : (encTys (plainT true t).l)[v.n.toNat]? = some (agTy p) := by rw [plain_l, encTys_get, List.getElem?_eq_getElem hn1, Option.map_some, encTy_eta, hp]
    have hcase : caseT t v.n = p := by unfold caseT; rw [List.getD_eq_getElem?_getD, List.getElem?_eq_getElem hn1, hp]; rfl
    have eR : insR t v.n v.l.length = if p.kind = 0 then [] else [p] := by
      unfold insR insL
      rw [if_neg h12, if_neg h12, if_neg (by omega), hcase]
      by_cases e : p.kind = 0
      · rw [if_neg (by omega), if_pos e]
      · rw [if_pos ⟨by omega, by omega, hn0, by omega, e⟩, if_neg e]
    have eN : insN t v.n v.l.length = (insR t v.n v.l.length).isEmpty := by unfold insN; rw [if_neg (by omega)]
    have eB : insB t v.n v.l.length = if p.kind = 0 then decide (v.l.length = 0) else decide (v.l.length = 1) := by
      unfold insB
      rw [if_neg h12, if_neg (by omega), if_pos h15, hcase, decide_eq_true ⟨hn0, by omega⟩, Bool.true_and]
    rw [eN, eR, eB]
    repeat' (first | refine Tri.seq ?_ | refine Tri.reg ?_ | refine TriL.nil ?_ | (apply U.moveT; rfl; trivial; rfl) | (apply U.load; rfl; rfl; trivial; rfl; rfl; rfl) | (apply U.fld; rfl; trivial; rfl; infer_instance; decide; rfl) | (apply U.bin; rfl; trivial; rfl; trivial; rfl; rfl) | (apply U.loadE; rfl; rfl; trivial; rfl; rfl) | (apply U.loadES; rfl; rfl; trivial; rfl; rfl; rfl) | (apply U.fldE; rfl; trivial; rfl; infer_instance; decide; rfl) | (apply U.idx; rfl; trivial; rfl; trivial; exact fun _ => (by omega); exact fun _ => (by assumption); exact fun _ => rfl; rfl) | refine Tri.skip ?_ | (refine Tri.cond rfl (fun h => ?_) (fun h => ?_) <;> (try simp at h) <;> (try contradiction)) | fail)
    · rw [if_neg h, if_neg h]
      (apply U.litT; rfl; rfl; rfl; rfl; rfl; rfl; rfl; rfl)
      skip
      refine U.appNil rfl (SrcE.t rfl rfl) Nat.zero_lt_one (Nat.le_of_ble_eq_true rfl) (Nat.le_of_ble_eq_true rfl) rfl ?_
      repeat' (first | refine Tri.seq ?_ | refine TriL.nil ?_ | (apply U.assignR; rfl; trivial; rfl) | fail)
      refine Tri.sub (s2 := ⟨[(6, .ref 3 4 0 1 1), (3, .ptr 1 0), (2, .ptr 0 0)], Tryz.f25.ntmps, [(3, .row 4 [agTy p] false), (1, .obj [.t (.v (.int .i64 v.n)), .t (.sl v.ns (v.s.map tInt)), .t (.sl v.nl (encVals v.l))]), (0, .obj [.t (.v (.int .i64 t.kind)), .t (.sl t.nn (t.names.map tStr)), .t (.sl t.nl (encTys t.l)), .t (.v (.int .i64 t.r))])], 0, 4⟩) (Sub.of rfl rfl ⟨rfl, rfl, rfl, trivial⟩ ⟨rfl, rfl, rfl, trivial⟩) ?_
      refine Tri.regX mixed (by kernel_rfl) rfl rfl ?_
      repeat' (first | refine TriL.nil ?_ | exact Yes.mk rfl | refine X.nil ?_ | (apply X.a; rfl) | exact ⟨rfl, rfl, rfl⟩ | (apply U.assignT; rfl; trivial; rfl) | (apply U.moveR; rfl; trivial; rfl) | (apply U.assignR; rfl; trivial; rfl) | (apply U.load; rfl; rfl; trivial; rfl; rfl; rfl) | (apply U.fld; rfl; trivial; rfl; infer_instance; decide; rfl) | (apply U.bin; rfl; trivial; rfl; trivial; rfl; rfl) | (apply U.len; rfl; trivial; rfl) | (apply U.lenR; rfl; trivial; rfl) | refine Tri.ret ?_ | fail)
      exact c2r (.inr rfl) rfl rfl (by simp) (by simp [encTys, encTy_eta]) rfl (by rw [hlen]; simp; omega)
    · rw [if_pos h, if_pos h]
      refine Tri.sub (s2 := ⟨[(6, .t (.sl true [])), (3, .ptr 1 0), (2, .ptr 0 0)], Tryz.f25.ntmps, [(1, .obj [.t (.v (.int .i64 v.n)), .t (.sl v.ns (v.s.map tInt)), .t (.sl v.nl (encVals v.l))]), (0, .obj [.t (.v (.int .i64 t.kind)), .t (.sl t.nn (t.names.map tStr)), .t (.sl t.nl (encTys t.l)), .t (.v (.int .i64 t.r))])], 0, 3⟩) (Sub.of rfl rfl ⟨rfl, rfl, rfl, trivial⟩ ⟨rfl, rfl, trivial⟩) ?_
      refine Tri.regX mixed (by kernel_rfl) rfl rfl ?_
      repeat' (first | refine TriL.nil ?_ | exact Yes.mk rfl | refine X.nil ?_ | (apply X.a; rfl) | exact ⟨rfl, rfl, rfl⟩ | (apply U.moveT; rfl; trivial; rfl) | (apply U.assignT; rfl; trivial; rfl) | (apply U.load; rfl; rfl; trivial; rfl; rfl; rfl) | (apply U.fld; rfl; trivial; rfl; infer_instance; decide; rfl) | (apply U.bin; rfl; trivial; rfl; trivial; rfl; rfl) | (apply U.len; rfl; trivial; rfl) | refine Tri.ret ?_ | fail)
      exact c2b (.inr rfl) rfl rfl (by rw [hlen]; simp)
  · rename_i h12 h13
    have eR : insR t v.n v.l.length = [] := by unfold insR insL; rw [if_neg h12, if_neg h12, if_neg (by omega), if_neg (by omega)]
    have eN : insN t v.n v.l.length = true := by unfold insN; rw [if_neg (by omega), eR]; rfl
    have eB : insB t v.n v.l.length = decide (v.l.length = 0) := by unfold insB; rw [if_neg h12, if_neg (by omega), if_neg (by omega)]
    rw [eR, eN, eB]
    refine Tri.sub (s2 := ⟨[(3, .ptr 1 0), (2, .ptr 0 0)], Tryz.f25.ntmps, [(1, .obj [.t (.v (.int .i64 v.n)), .t (.sl v.ns (v.s.map tInt)), .t (.sl v.nl (encVals v.l))]), (0, .obj [.t (.v (.int .i64 t.kind)), .t (.sl t.nn (t.names.map tStr)), .t (.sl t.nl (encTys t.l)), .t (.v (.int .i64 t.r))])], 0, 2⟩) (Sub.of rfl rfl ⟨rfl, rfl, trivial⟩ ⟨rfl, rfl, trivial⟩) ?_
    refine Tri.regX mixed (by kernel_rfl) rfl rfl ?_
    repeat' (first | refine TriL.nil ?_ | exact Yes.mk rfl | refine X.nil ?_ | (apply X.a; rfl) | exact ⟨rfl, rfl, rfl⟩ | (apply U.assignT; rfl; trivial; rfl) | (apply U.load; rfl; rfl; trivial; rfl; rfl; rfl) | (apply U.fld; rfl; trivial; rfl; infer_instance; decide; rfl) | (apply U.bin; rfl; trivial; rfl; trivial; rfl; rfl) | (apply U.len; rfl; trivial; rfl) | refine Tri.ret ?_ | fail)
    exact c2b (.inr rfl) rfl rfl (by rw [hlen]; simp)
theorem sumR_core (ts : List Ty) (l : List Val) (nt nl : Bool) (hb : l.length ≤ big) (hl : l.length ≤ ts.length) (hel : ∀ (i : Nat) (h : i < l.length) (h2 : i < ts.length), E.Pure Tryz.prog 22 [agTy ts[i], agVal l[i]] (.one (.t (tInt (partV l[i] ts[i]))))) :
    E.Pure Tryz.prog 59 [.sl nt (encTys ts), .sl nl (encVals l)] (.one (.t (tInt (sumV l ts 1)))) := by
  unfold big at hb
  have h1 := encTys_length ts
  have h2 := encVals_length l
  refine Pure.of1 Tryz.func59 rfl rfl (Nat.le_of_ble_eq_true rfl) rfl ?_
  repeat' (first | refine Tri.seq ?_ | refine Tri.reg ?_ | refine TriL.nil ?_ | (apply U.assignT; rfl; trivial; rfl) | refine Tri.block ?_ | fail)
  refine Tri.loopS (α := Nat × Nat) (fun a => ⟨[(6, .t (tInt a.1)), (5, .t (tInt a.2)), (1, .t (.sl nl (encVals l))), (0, .t (.sl nt (encTys ts)))], Tryz.f59.ntmps, [], 0, 0⟩)
    (fun a => a.1 ≤ l.length ∧ a.2 ≤ 4000 ∧ sumV l ts 1 = sumV (l.drop a.1) (ts.drop a.1) a.2) (fun a => l.length - a.1) (0, 1) ?_ ?_ ?_
  · exact ⟨Nat.zero_le _, by decide, rfl⟩
  · exact Sub.of rfl rfl ⟨rfl, rfl, rfl, rfl, trivial⟩ trivial
  · rintro ⟨i, n⟩ ⟨hi, hn, hs⟩
    dsimp only at hi hn hs ⊢
    repeat' (first | refine Tri.seq ?_ | refine Tri.reg ?_ | refine TriL.nil ?_ | (apply U.moveT; rfl; trivial; rfl) | (apply U.assignT; rfl; trivial; rfl) | (apply U.bin; rfl; trivial; rfl; trivial; rfl; rfl) | (apply U.len; rfl; trivial; rfl) | refine Tri.skip ?_ | refine Tri.block ?_ | refine Tri.exit ?_ | refine Tri.ret ?_ | (refine Tri.cond rfl (fun h => ?_) (fun h => ?_) <;> (try simp at h) <;> (try contradiction)) | fail)
    · have hlt : i < l.length := by omega
      have hlt2 : i < ts.length := by omega
      have hg1 := get_val hlt
      have hg2 := get_ty hlt2
      have hc := hel i hlt hlt2
      have hle := partV_le l[i] ts[i]
      have hstep := sumV_step (acc := n) hlt hlt2
      refine Tri.regX mixed (by kernel_rfl) rfl rfl ?_
      repeat' (first | refine Tri.seq ?_ | refine Tri.reg ?_ | refine TriL.nil ?_ | exact Yes.mk rfl | refine X.nil ?_ | (apply X.a; rfl) | exact ⟨rfl, rfl, rfl⟩ | (apply U.moveT; rfl; trivial; rfl) | (apply U.assignT; rfl; trivial; rfl) | (apply U.add; rfl; trivial; rfl; trivial; exact fun _ => wrap_i64 (by omega) (by omega); rfl) | (apply U.bin; rfl; trivial; rfl; trivial; rfl; rfl) | (apply U.loadES; rfl; rfl; trivial; rfl; rfl; rfl) | (apply U.pickb; rfl; trivial; rfl; (first | trivial | exact id | exact And.right | exact gvA | exact gvB | exact And.left | exact gvN | exact gvP2 | exact gvN2 | exact gvLA); rfl; (first | trivial | exact id | exact And.right | exact gvA | exact gvB | exact And.left | exact gvN | exact gvP2 | exact gvN2 | exact gvLA); rfl) | (apply U.idx; rfl; trivial; rfl; trivial; exact fun _ => (by omega); exact fun _ => (by assumption); exact fun _ => rfl; rfl) | (apply G.moveT; rfl; (first | trivial | exact id | exact And.right | exact gvA | exact gvB | exact And.left | exact gvN | exact gvP2 | exact gvN2 | exact gvLA); rfl; rfl; rfl) | (apply G.bin; rfl; (first | trivial | exact id | exact And.right | exact gvA | exact gvB | exact And.left | exact gvN | exact gvP2 | exact gvN2 | exact gvLA); rfl; (first | trivial | exact id | exact And.right | exact gvA | exact gvB | exact And.left | exact gvN | exact gvP2 | exact gvN2 | exact gvLA); rfl; rfl; rfl; rfl) | refine U.call2 rfl rfl rfl (by assumption) rfl ?_ | refine Tri.skip ?_ | refine Tri.ret ?_ | (refine Tri.cond rfl (fun h => ?_) (fun h => ?_) <;> (try simp at h) <;> (try contradiction)) | fail)
      · refine Comes1.ret rfl ?_
        rw [hs, hstep, if_pos (by omega)]; rfl
      · refine ⟨(i + 1, n + partV l[i] ts[i]), ⟨by dsimp only; omega, by dsimp only; omega, ?_⟩, by dsimp only; omega, Sub.of rfl rfl ⟨rfl, rfl, rfl, rfl, trivial⟩ trivial⟩
        rw [hs, hstep, if_neg (by omega)]
    · refine Comes1.ret rfl ?_
      rw [hs, List.drop_eq_nil_of_le (by omega), sumV]
end Go.Proofs.YtmhbibfkhbaclaaGreatDoor

/- What a value of a type is made of: the reference's Parts. -/
namespace Go.Proofs.YtmhbibfkhbaclaaGreatDoor
open Go E
set_option maxRecDepth 100000
set_option maxHeartbeats 4000000
set_option linter.unusedVariables false
set_option linter.unusedSimpArgs false
attribute [local irreducible] Tri TriL TriO PO VO E.Pure DOb XOb
theorem insL_len {t : Ty} {n : Int} {m : Nat} (h : insB t n m = true) : (insL t n m).length = m := by
  unfold insB at h
  unfold insL
  by_cases h12 : t.kind = 12
  · rw [if_pos h12]; simp
  · rw [if_neg h12] at h ⊢
    by_cases h13 : t.kind = 13 ∨ t.kind = 14
    · rw [if_pos h13] at h ⊢
      simp only [Bool.and_eq_true, decide_eq_true_eq] at h
      exact h.2.symm
    · rw [if_neg h13] at h ⊢
      by_cases h15 : 15 ≤ t.kind ∧ t.kind ≤ 18
      · rw [if_pos h15] at h
        simp only [Bool.and_eq_true, decide_eq_true_eq] at h
        by_cases hc : (caseT t n).kind = 0
        · rw [if_pos hc] at h
          rw [if_neg (by omega)]
          simp at h; simp [h.2]
        · rw [if_neg hc] at h
          rw [if_pos ⟨h15.1, h15.2, h.1.1, h.1.2, hc⟩]
          simp at h; simp [h.2]
      · rw [if_neg h15] at h
        rw [if_neg (by omega)]
        simp at h; simp [h]
theorem insL_el {t x : Ty} {n : Int} {m : Nat} (hv : Vd t) (h0 : t.kind ≠ 0) (hx : x ∈ insL t n m) : Vd x ∧ x.kind ≠ 0 := by
  unfold insL at hx
  by_cases h12 : t.kind = 12
  · rw [if_pos h12] at hx
    have hl1 := own12 (hv.own h0) h12
    obtain ⟨t0, ht0⟩ := List.length_eq_one_iff.1 hl1
    have : x = t0 := by have := List.eq_of_mem_replicate hx; rw [this, ht0]; rfl
    exact hv.elk h0 (by omega) (by rw [this, ht0]; simp)
  · rw [if_neg h12] at hx
    by_cases h13 : t.kind = 13 ∨ t.kind = 14
    · rw [if_pos h13] at hx
      exact hv.elk h0 (by omega) hx
    · rw [if_neg h13] at hx
      split at hx
      · rename_i hc
        obtain ⟨c1, c2, c3, c4, c5⟩ := hc
        have hxe : x = caseT t n := by simpa using hx
        rw [hxe]
        refine ⟨?_, c5⟩
        have hn1 : n.toNat < (plainT false t).l.length := by omega
        have hcase : caseT t n = (plainT false t).l[n.toNat] := by unfold caseT; rw [List.getD_eq_getElem?_getD, List.getElem?_eq_getElem hn1]; rfl
        rcases plainT_el (z := false) (t := t) (x := caseT t n) (by rw [hcase]; exact List.getElem_mem hn1) with e | e
        · rw [e] at c5; exact absurd rfl c5
        · exact hv.el e
      · cases hx
theorem inside_core (t : Ty) (v : Val) (hs : smallV v) (hv : Vd t) (hk0 : t.kind ≠ 0) (hel : ∀ (i : Nat) (h : i < v.l.length) (x : Ty), Vd x → x.kind ≠ 0 → E.Pure Tryz.prog 22 [agTy x, agVal v.l[i]] (.one (.t (tInt (partV v.l[i] x))))) :
    E.Pure Tryz.prog 36 [encTy t, encVal v] (.one (.t (tInt ((if insB t v.n v.l.length = true then sumV v.l (insL t v.n v.l.length) 1 else 0 : Nat) : Int)))) := by
  have h1 := insideR_p t v hs hv hk0
  refine Pure.of1 Tryz.func36 rfl rfl (Nat.le_of_ble_eq_true rfl) rfl ?_
  rw [encTy_eta, encVal_eta] at h1 ⊢
  have h2 : insB t v.n v.l.length = true → E.Pure Tryz.prog 59 [.sl (insN t v.n v.l.length) (encTys (insR t v.n v.l.length)), .sl v.nl (encVals v.l)] (.one (.t (tInt (sumV v.l (insL t v.n v.l.length) 1)))) := fun h => by
    rw [insR_ok h]
    exact sumR_core _ v.l _ v.nl (smallV_l hs) (by rw [insL_len h]; exact Nat.le_refl _) fun i hi hj => by
      obtain ⟨a1, a2⟩ := insL_el hv hk0 (List.getElem_mem hj)
      exact hel i hi _ a1 a2
  repeat' (first | refine Tri.seq ?_ | refine Tri.reg ?_ | refine TriL.nil ?_ | (apply U.moveT; rfl; trivial; rfl) | (apply U.assignT; rfl; trivial; rfl) | (apply U.moveU; rfl; trivial; rfl) | (apply U.load; rfl; rfl; trivial; rfl; rfl; rfl) | (apply U.fld; rfl; trivial; rfl; infer_instance; decide; rfl) | (apply U.loadS; rfl; rfl; trivial; rfl; rfl; rfl; rfl; rfl) | (apply U.ext; rfl; trivial; rfl; rfl) | (apply U.not; rfl; trivial; rfl) | (apply U.boxA; rfl; rfl) | refine Tri.skip ?_ | refine Tri.ret ?_ | refine U.callP2 rfl rfl rfl (by assumption) rfl ?_ | (refine Tri.cond rfl (fun h => ?_) (fun h => ?_) <;> (try simp at h) <;> (try contradiction)) | fail)
  · refine Comes1.ret rfl ?_
    rw [if_neg (by simp [h])]; rfl
  · have h3 := h2 h
    repeat' (first | refine TriL.nil ?_ | (apply U.assignT; rfl; trivial; rfl) | refine U.call2 rfl rfl rfl (by assumption) rfl ?_ | refine Tri.ret ?_ | fail)
    refine Comes1.ret rfl ?_
    rw [if_pos h]
theorem wholeN_cases (k n : Int) : (isW k = true ∧ inK k n = true ∧ wholeN k n = 2) ∨ (isW k = true ∧ inK k n = false ∧ wholeN k n = 1) ∨ (isW k = false ∧ wholeN k n = 0) := by
  unfold wholeN
  cases h1 : isW k
  · exact .inr (.inr ⟨rfl, rfl⟩)
  · cases h2 : inK k n
    · exact .inr (.inl ⟨rfl, rfl, rfl⟩)
    · exact .inl ⟨rfl, rfl, rfl⟩
theorem partsR_p : ∀ (m : Nat) (v : Val) (t : Ty), SizeOf.sizeOf v ≤ m → smallV v → Vd t → t.kind ≠ 0 → E.Pure Tryz.prog 22 [encTy t, encVal v] (.one (.t (tInt (partV v t)))) := by
  intro m
  induction m with
  | zero => intro v t hm; cases v; simp at hm
  | succ m ih =>
    intro v t hm hs hv hk0
    have hb1 := smallV_s hs
    have hb2 := smallV_l hs
    have hw := whole_p t.kind v.n (smallV_n hs)
    have hsc := scalarR_p v.n
    have hin := inside_core t v hs hv hk0 fun i hi x hx hx0 => by
      have := ih v.l[i] x (by have := vsize_get hi v rfl; omega) (smallVs_get (smallV_ls hs) (List.getElem?_eq_getElem hi)) hx hx0
      rwa [encTy_eta, encVal_eta] at this
    unfold big at hb1 hb2
    have hlen := encVals_length v.l
    have hsl : (v.s.map tInt).length = v.s.length := by simp
    have el : v.l = [] → v.l.length = 0 := fun e => by rw [e]; rfl
    have es : v.s = [] → v.s.length = 0 := fun e => by rw [e]; rfl
    have el2 : v.l.length = 0 → v.l = [] := List.length_eq_zero_iff.1
    have es2 : v.s.length = 0 → v.s = [] := List.length_eq_zero_iff.1
    refine Pure.of1 Tryz.func22 rfl rfl (Nat.le_of_ble_eq_true rfl) rfl ?_
    rw [encTy_eta, encVal_eta] at hin ⊢
    have hwc := wholeN_cases t.kind v.n
    have hwn : wholeN t.kind v.n ≤ 0 → ¬ isW t.kind = true := fun e => by
      rcases hwc with ⟨a, b, c⟩ | ⟨a, b, c⟩ | ⟨a, c⟩
      · omega
      · omega
      · simp [a]
    have hle0 : encVals v.l = [] → v.l.length = 0 := fun e => by rw [← hlen, e]; rfl
    repeat' (first | refine Tri.seq ?_ | refine Tri.reg ?_ | refine TriL.nil ?_ | (apply U.moveT; rfl; trivial; rfl) | (apply U.assignT; rfl; trivial; rfl) | (apply U.load; rfl; rfl; trivial; rfl; rfl; rfl) | (apply U.fld; rfl; trivial; rfl; infer_instance; decide; rfl) | (apply U.bin; rfl; trivial; rfl; trivial; rfl; rfl) | (apply U.len; rfl; trivial; rfl) | (apply U.loadS; rfl; rfl; trivial; rfl; rfl; rfl; rfl; rfl) | (apply U.not; rfl; trivial; rfl) | (apply U.pickb; rfl; trivial; rfl; (first | trivial | exact id | exact And.right | exact gvA | exact gvB | exact And.left | exact gvN | exact gvP2 | exact gvN2 | exact gvLA); rfl; (first | trivial | exact id | exact And.right | exact gvA | exact gvB | exact And.left | exact gvN | exact gvP2 | exact gvN2 | exact gvLA); rfl) | (apply U.boxA; rfl; rfl) | (apply G.load; rfl; rfl; (first | trivial | exact id | exact And.right | exact gvA | exact gvB | exact And.left | exact gvN | exact gvP2 | exact gvN2 | exact gvLA); rfl; rfl; rfl; rfl; rfl) | (apply G.fld; rfl; (first | trivial | exact id | exact And.right | exact gvA | exact gvB | exact And.left | exact gvN | exact gvP2 | exact gvN2 | exact gvLA); rfl; infer_instance; decide; rfl; rfl; rfl) | (apply G.bin; rfl; (first | trivial | exact id | exact And.right | exact gvA | exact gvB | exact And.left | exact gvN | exact gvP2 | exact gvN2 | exact gvLA); rfl; (first | trivial | exact id | exact And.right | exact gvA | exact gvB | exact And.left | exact gvN | exact gvP2 | exact gvN2 | exact gvLA); rfl; rfl; rfl; rfl) | (apply G.len; rfl; (first | trivial | exact id | exact And.right | exact gvA | exact gvB | exact And.left | exact gvN | exact gvP2 | exact gvN2 | exact gvLA); rfl; rfl; rfl) | refine U.call1 rfl rfl (by assumption) rfl ?_ | refine U.call2 rfl rfl rfl (by assumption) rfl ?_ | refine Tri.skip ?_ | refine Tri.block ?_ | refine Tri.ret ?_ | (refine Tri.cond rfl (fun h => ?_) (fun h => ?_) <;> (try simp at h) <;> (try contradiction)) | fail)
    · rename_i h0
      refine Comes1.ret rfl ?_
      rcases hwc with ⟨a, b, c⟩ | ⟨a, b, c⟩ | ⟨a, c⟩
      · rw [partV_eq, if_pos a, if_neg ?_]
        · rfl
        rintro ⟨x1, x2, x3⟩
        have x2 := es x2
        have x3 := el x3
        omega
      · rw [partV_eq, if_pos a, if_neg (by simp [b])]; rfl
      · omega
    · rename_i h0
      refine Comes1.ret rfl ?_
      rcases hwc with ⟨a, b, c⟩ | ⟨a, b, c⟩ | ⟨a, c⟩
      · rw [partV_eq, if_pos a, if_pos ⟨b, h.1.2, el2 (hle0 h.2)⟩]; rfl
      · exact absurd c h.1.1
      · omega
    · rename_i h0 hk
      refine Comes1.ret rfl ?_
      rw [partV_eq, if_neg (hwn h0), if_pos hk, if_neg ?_]
      · rfl
      rintro ⟨x1, x2, x3⟩
      have x2 := es x2
      have x3 := el x3
      rcases h with (h | h) | h
      · rw [x1] at h; cases h
      · omega
      · omega
    · rename_i h0 hk
      refine Comes1.ret rfl ?_
      rw [partV_eq, if_neg (hwn h0), if_pos hk, if_pos ⟨h.1.1, h.1.2, el2 (hle0 h.2)⟩]; rfl
    · -- a text
      rename_i h0 hk
      have hk2 := h
      refine Tri.loopS (α := Nat) (fun i => ⟨[(6, .t (tInt i)), (3, .ptr 1 0), (2, .ptr 0 0)], Tryz.f22.ntmps, [(1, .obj [.t (.v (.int .i64 v.n)), .t (.sl v.ns (v.s.map tInt)), .t (.sl v.nl (encVals v.l))]), (0, .obj [.t (.v (.int .i64 t.kind)), .t (.sl t.nn (t.names.map tStr)), .t (.sl t.nl (encTys t.l)), .t (.v (.int .i64 t.r))])], 0, 2⟩)
        (fun i => i ≤ v.s.length ∧ v.s.all scalarB = (v.s.drop i).all scalarB) (fun i => v.s.length - i) 0 ⟨Nat.zero_le _, rfl⟩ ?_ ?_
      · exact Sub.of rfl rfl ⟨rfl, rfl, rfl, trivial⟩ ⟨rfl, rfl, trivial⟩
      · rintro i ⟨hi, hd⟩
        repeat' (first | refine Tri.seq ?_ | refine Tri.reg ?_ | refine TriL.nil ?_ | (apply U.moveT; rfl; trivial; rfl) | (apply U.assignT; rfl; trivial; rfl) | (apply U.load; rfl; rfl; trivial; rfl; rfl; rfl) | (apply U.fld; rfl; trivial; rfl; infer_instance; decide; rfl) | (apply U.add; rfl; trivial; rfl; trivial; exact fun _ => wrap_i64 (by omega) (by omega); rfl) | (apply U.bin; rfl; trivial; rfl; trivial; rfl; rfl) | (apply U.len; rfl; trivial; rfl) | (apply U.pickb; rfl; trivial; rfl; (first | trivial | exact id | exact And.right | exact gvA | exact gvB | exact And.left | exact gvN | exact gvP2 | exact gvN2 | exact gvLA); rfl; (first | trivial | exact id | exact And.right | exact gvA | exact gvB | exact And.left | exact gvN | exact gvP2 | exact gvN2 | exact gvLA); rfl) | (apply G.load; rfl; rfl; (first | trivial | exact id | exact And.right | exact gvA | exact gvB | exact And.left | exact gvN | exact gvP2 | exact gvN2 | exact gvLA); rfl; rfl; rfl; rfl; rfl) | (apply G.fld; rfl; (first | trivial | exact id | exact And.right | exact gvA | exact gvB | exact And.left | exact gvN | exact gvP2 | exact gvN2 | exact gvLA); rfl; infer_instance; decide; rfl; rfl; rfl) | (apply G.bin; rfl; (first | trivial | exact id | exact And.right | exact gvA | exact gvB | exact And.left | exact gvN | exact gvP2 | exact gvN2 | exact gvLA); rfl; (first | trivial | exact id | exact And.right | exact gvA | exact gvB | exact And.left | exact gvN | exact gvP2 | exact gvN2 | exact gvLA); rfl; rfl; rfl; rfl) | (apply G.len; rfl; (first | trivial | exact id | exact And.right | exact gvA | exact gvB | exact And.left | exact gvN | exact gvP2 | exact gvN2 | exact gvLA); rfl; rfl; rfl) | refine Tri.skip ?_ | refine Tri.block ?_ | refine Tri.exit ?_ | refine Tri.ret ?_ | (refine Tri.cond rfl (fun h => ?_) (fun h => ?_) <;> (try simp at h) <;> (try contradiction)) | fail)
        · have hlt : i < v.s.length := by omega
          have hget := get_int hlt
          have hc := scalarR_p v.s[i]
          rw [List.drop_eq_getElem_cons hlt, List.all_cons] at hd
          repeat' (first | refine Tri.seq ?_ | refine Tri.reg ?_ | refine TriL.nil ?_ | (apply U.moveT; rfl; trivial; rfl) | (apply U.assignT; rfl; trivial; rfl) | (apply U.add; rfl; trivial; rfl; trivial; exact fun _ => wrap_i64 (by omega) (by omega); rfl) | (apply U.loadE; rfl; rfl; trivial; rfl; rfl) | (apply U.not; rfl; trivial; rfl) | (apply U.idx; rfl; trivial; rfl; trivial; exact fun _ => (by omega); exact fun _ => (by assumption); exact fun _ => rfl; rfl) | refine U.call1 rfl rfl (by assumption) rfl ?_ | refine Tri.skip ?_ | refine Tri.ret ?_ | (refine Tri.cond rfl (fun h => ?_) (fun h => ?_) <;> (try simp at h) <;> (try contradiction)) | fail)
          · refine Comes1.ret rfl ?_
            rw [partV_eq, if_neg (hwn h0), if_neg hk, if_pos hk2, if_neg (by rw [hd, h]; simp)]; rfl
          · refine ⟨i + 1, ⟨by omega, ?_⟩, by omega, Sub.of rfl rfl ⟨rfl, rfl, rfl, trivial⟩ ⟨rfl, rfl, trivial⟩⟩
            rw [hd, h, Bool.true_and]
        · refine Comes1.ret rfl ?_
          rw [partV_eq, if_neg (hwn h0), if_neg hk, if_pos hk2, if_neg ?_]
          · rfl
          rintro ⟨x1, x2, x3, x4⟩
          have x3 := el x3
          rcases h with (h | h) | h
          · exact h x2
          · omega
          · omega
        · refine Comes1.ret rfl ?_
          have hall : v.s.all scalarB = true := by rw [hd, List.drop_eq_nil_of_le (by omega)]; rfl
          rw [partV_eq, if_neg (hwn h0), if_neg hk, if_pos hk2, if_pos ⟨hall, h.1.1, el2 (hle0 h.1.2), by omega⟩, hsl]; rfl
    · rename_i h0 hk hk2
      refine Comes1.ret rfl ?_
      rw [partV_eq, if_neg (hwn h0), if_neg hk, if_neg hk2, if_pos (fun e => by have := es e; omega)]; rfl
    · -- flags
      rename_i h0 hk hk2 hs0
      have h19 := h
      have h32 := hv.dim.fl h19
      have hnl : (t.names.map tStr).length = t.names.length := by simp
      refine Tri.loopS (α := Nat × Nat) (fun a => ⟨[(8, .t (tInt a.1)), (7, .t (tInt a.2)), (3, .ptr 1 0), (2, .ptr 0 0)], Tryz.f22.ntmps, [(1, .obj [.t (.v (.int .i64 v.n)), .t (.sl v.ns (v.s.map tInt)), .t (.sl v.nl (encVals v.l))]), (0, .obj [.t (.v (.int .i64 t.kind)), .t (.sl t.nn (t.names.map tStr)), .t (.sl t.nl (encTys t.l)), .t (.v (.int .i64 t.r))])], 0, 2⟩)
        (fun a => a.1 ≤ t.names.length ∧ a.2 = 2 ^ a.1) (fun a => t.names.length - a.1) (0, 1) ⟨Nat.zero_le _, rfl⟩ ?_ ?_
      · exact Sub.of rfl rfl ⟨rfl, rfl, rfl, rfl, trivial⟩ ⟨rfl, rfl, trivial⟩
      · rintro ⟨i, p⟩ ⟨hi, hp⟩
        dsimp only at hi hp ⊢
        have hp2 : i < t.names.length → p ≤ 2147483648 := fun hlt => by rw [hp]; exact Nat.le_trans (Nat.pow_le_pow_right (by decide) (show i ≤ 31 by omega)) (by decide)
        repeat' (first | refine Tri.seq ?_ | refine Tri.reg ?_ | refine TriL.nil ?_ | (apply U.moveT; rfl; trivial; rfl) | (apply U.assignT; rfl; trivial; rfl) | (apply U.load; rfl; rfl; trivial; rfl; rfl; rfl) | (apply U.fld; rfl; trivial; rfl; infer_instance; decide; rfl) | (apply U.add; rfl; trivial; rfl; trivial; exact fun _ => wrap_i64 (by omega) (by omega); rfl) | (apply U.mul; rfl; trivial; rfl; trivial; exact fun _ => (by first | assumption | exact wrap_i64 (by omega) (by omega)); rfl) | (apply U.bin; rfl; trivial; rfl; trivial; rfl; rfl) | (apply U.len; rfl; trivial; rfl) | (apply U.pickb; rfl; trivial; rfl; (first | trivial | exact id | exact And.right | exact gvA | exact gvB | exact And.left | exact gvN | exact gvP2 | exact gvN2 | exact gvLA); rfl; (first | trivial | exact id | exact And.right | exact gvA | exact gvB | exact And.left | exact gvN | exact gvP2 | exact gvN2 | exact gvLA); rfl) | (apply G.moveT; rfl; (first | trivial | exact id | exact And.right | exact gvA | exact gvB | exact And.left | exact gvN | exact gvP2 | exact gvN2 | exact gvLA); rfl; rfl; rfl) | (apply G.load; rfl; rfl; (first | trivial | exact id | exact And.right | exact gvA | exact gvB | exact And.left | exact gvN | exact gvP2 | exact gvN2 | exact gvLA); rfl; rfl; rfl; rfl; rfl) | (apply G.fld; rfl; (first | trivial | exact id | exact And.right | exact gvA | exact gvB | exact And.left | exact gvN | exact gvP2 | exact gvN2 | exact gvLA); rfl; infer_instance; decide; rfl; rfl; rfl) | (apply G.bin; rfl; (first | trivial | exact id | exact And.right | exact gvA | exact gvB | exact And.left | exact gvN | exact gvP2 | exact gvN2 | exact gvLA); rfl; (first | trivial | exact id | exact And.right | exact gvA | exact gvB | exact And.left | exact gvN | exact gvP2 | exact gvN2 | exact gvLA); rfl; rfl; rfl; rfl) | (apply G.len; rfl; (first | trivial | exact id | exact And.right | exact gvA | exact gvB | exact And.left | exact gvN | exact gvP2 | exact gvN2 | exact gvLA); rfl; rfl; rfl) | refine Tri.skip ?_ | refine Tri.block ?_ | refine Tri.exit ?_ | refine Tri.ret ?_ | (refine Tri.cond rfl (fun h => ?_) (fun h => ?_) <;> (try simp at h) <;> (try contradiction)) | fail)
        · have hlt : i < t.names.length := by omega
          refine ⟨(i + 1, p * 2), ⟨by dsimp only; omega, ?_⟩, by dsimp only; omega, Sub.of rfl rfl ⟨rfl, rfl, rfl, rfl, trivial⟩ ⟨rfl, rfl, trivial⟩⟩
          dsimp only
          rw [hp, Nat.pow_succ]
        all_goals
          have hit : i = t.names.length := by omega
          have hpz : (p : Int) = 2 ^ t.names.length := by rw [hp, hit]; push_cast; rfl
          rw [hpz] at h
        · refine Comes1.ret rfl ?_
          rw [partV_eq, if_neg (hwn h0), if_neg hk, if_neg hk2, if_neg (by simp [hs0]), if_pos h19, if_neg ?_]
          · rfl
          rintro ⟨x1, x2, x3⟩
          have x3 := el x3
          rcases h with (h | h) | h
          · omega
          · exact absurd x2 (Int.not_lt.2 h)
          · omega
        · refine Comes1.ret rfl ?_
          rw [partV_eq, if_neg (hwn h0), if_neg hk, if_neg hk2, if_neg (by simp [hs0]), if_pos h19, if_pos ⟨h.1.1, h.1.2, el2 (hle0 h.2)⟩]; rfl
    · rename_i h0 hk hk2 hs0
      refine Comes1.ret rfl ?_
      rw [partV_eq, if_neg (hwn h0), if_neg hk, if_neg hk2, if_neg (show ¬ v.s ≠ [] by simp [hs0]), if_neg h]
end Go.Proofs.YtmhbibfkhbaclaaGreatDoor
