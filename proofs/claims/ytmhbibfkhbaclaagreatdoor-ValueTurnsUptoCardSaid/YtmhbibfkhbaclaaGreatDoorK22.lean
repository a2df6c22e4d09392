/- strings.Index of one byte; strings.SplitSeq's closure is made: walked. -/
import Derived.Test.YtmhbibfkhbaclaaGreatDoorProg
import Derived.Lib.Strings
import Derived.Lib.Slices
import Derived.Lib.Walk
import Derived.Lib.Bytealg
import Derived.Laws.ByValue
import Derived.RangeFuncNested
import Derived.RangeFuncBound
import Derived.RangeFuncCalls
import Derived.RangeFuncLeaves
import Derived.Shelf.Abstract
import Derived.WalkKit
import Derived.OwnWalkIn
import Derived.TacticsInMore
import Derived.LoopNIn
import Derived.LoopIn
import Derived.RangeFuncFrom
namespace Go.Proofs.YtmhbibfkhbaclaaGreatDoor
set_option linter.unusedVariables false
set_option linter.unusedSimpArgs false
open Go
set_option maxHeartbeats 4000000
set_option maxRecDepth 100000
theorem indexByte_w (s : ByteArray) (c : Int) (w : World) :
    Calls Tryz.prog 119 #[.string s, .int .u8 c] w fun e w' => e = .returned (.int .i64 (Lib.indexByte s.data.toList c.toNat.toUInt8)) ∧ w' = w := by
  go_enter Tryz.func119, Tryz.ntmps119
  go_wp2
  rw [run_callFunc_extern Tryz.func123 (by kernel_rfl) (by kernel_rfl) (by kernel_rfl) (e := Extern.BytealgIndexByte.indexByte) (by kernel_rfl), Lib.run_indexByteString]
  simp only [Result.andThen]
  rw [Oper.upon_value]
  go_wp2
  go_ret
  exact ⟨rfl, rfl⟩
theorem indexLite_w (s : ByteArray) (c : UInt8) (w : World) :
    Calls Tryz.prog 118 #[.string s, .string ⟨#[c]⟩] w fun e w' => e = .returned (.int .i64 (Lib.indexByte s.data.toList c)) ∧ w' = w := by
  go_enter Tryz.func118, Tryz.ntmps118
  go_wp2_with (go_at_call 119; refine (indexByte_w _ _ _).mono ?_; rintro e w' ⟨rfl, rfl⟩)
  · have h : ([c] == s.toList) = true := by assumption
    go_ret
    refine ⟨?_, rfl⟩
    have e : s.data.toList = [c] := by rw [← Lib.toList_data]; exact (beq_iff_eq.1 h).symm
    rw [e]
    simp [Lib.indexByte]
  · go_ret
    exact ⟨rfl, rfl⟩
theorem index_w (s : ByteArray) (c : UInt8) (w : World) :
    Calls Tryz.prog 117 #[.string s, .string ⟨#[c]⟩] w fun e w' => e = .returned (.int .i64 (Lib.indexByte s.data.toList c)) ∧ w' = w := by
  go_enter Tryz.func117, Tryz.ntmps117
  go_wp2_with (go_at_call 118; refine (indexLite_w _ _ _).mono ?_; rintro e w' ⟨rfl, rfl⟩)
  go_ret
  exact ⟨rfl, rfl⟩
theorem splitSeq1_w (s sep : ByteArray) (w : World) :
    Calls Tryz.prog 107 #[.string s, .string sep, .int .i64 0] w fun e w' => e = .returned (.func (.func 116) #[] #[.pointer (some ⟨w.heap.size + 1, 0, none⟩), .pointer (some ⟨w.heap.size, 0, none⟩), .pointer (some ⟨w.heap.size + 2, 0, none⟩)]) ∧
      w' = ((w.alloc (.cells #[.string s] 9)).alloc (.cells #[.string sep] 9)).alloc (.cells #[.int .i64 0] 3) := by
  go_enter Tryz.func107, Tryz.ntmps107
  go_wp2
  go_ret
  exact ⟨by simp, rfl⟩
/-- SplitSeq makes its closure, over three new cells. -/
theorem splitSeq_w (s sep : ByteArray) (w : World) :
    Calls Tryz.prog 93 #[.string s, .string sep] w fun e w' => e = .returned (.func (.func 116) #[] #[.pointer (some ⟨w.heap.size + 1, 0, none⟩), .pointer (some ⟨w.heap.size, 0, none⟩), .pointer (some ⟨w.heap.size + 2, 0, none⟩)]) ∧
      w' = ((w.alloc (.cells #[.string s] 9)).alloc (.cells #[.string sep] 9)).alloc (.cells #[.int .i64 0] 3) := by
  go_enter Tryz.func93, Tryz.ntmps93
  go_wp2_with (go_at_call 107; refine (splitSeq1_w _ _ _).mono ?_; rintro e w' ⟨rfl, rfl⟩)
  go_ret
  exact ⟨rfl, rfl⟩
end Go.Proofs.YtmhbibfkhbaclaaGreatDoor

/- strings.SplitSeq's iterator at "-": its contract. -/
namespace Go.Proofs.YtmhbibfkhbaclaaGreatDoor
set_option linter.unusedVariables false
set_option linter.unusedSimpArgs false
open Go Go.RowKit Go.Shelf
attribute [local go_sem] Oper.semAt_some
set_option maxHeartbeats 4000000
set_option maxRecDepth 100000
/-- A text in its parts, which '-' parts. -/
def splitL : List UInt8 → List (List UInt8)
  | [] => [[]]
  | c :: cs => if c = 45 then [] :: splitL cs else match splitL cs with
    | p :: ps => (c :: p) :: ps
    | [] => [[c]]
theorem splitL_ne (l : List UInt8) : splitL l ≠ [] := by
  cases l with
  | nil => simp [splitL]
  | cons c cs => simp only [splitL]; split
                 · simp
                 · split <;> simp
theorem splitL_none : ∀ (l : List UInt8), Lib.indexByte l 45 = -1 → splitL l = [l]
  | [], _ => rfl
  | c :: cs, h => by
    simp only [Lib.indexByte, beq_iff_eq] at h
    have hg := Lib.indexByte_ge cs 45
    split at h
    · cases h
    · split at h
      · rename_i h1 h2; rw [splitL, if_neg h1, splitL_none cs h2]
      · omega
theorem splitL_some : ∀ (l : List UInt8) (i : Nat), Lib.indexByte l 45 = i → splitL l = l.take i :: splitL (l.drop (i + 1)) ∧ i < l.length
  | [], i, h => by simp [Lib.indexByte] at h
  | c :: cs, i, h => by
    simp only [Lib.indexByte, beq_iff_eq] at h
    have hg := Lib.indexByte_ge cs 45
    split at h
    · rename_i h1
      obtain rfl : i = 0 := by omega
      rw [splitL, if_pos h1]; simp
    · split at h
      · omega
      · rename_i h1 h2
        obtain ⟨k, rfl⟩ : ∃ k, i = k + 1 := ⟨i - 1, by omega⟩
        obtain ⟨h3, h4⟩ := splitL_some cs k (by omega)
        rw [splitL, if_neg h1, h3]
        exact ⟨by simp, by simp; omega⟩
theorem idx_facts (r : ByteArray) (hb : r.size ≤ 1000) (h : ¬ Lib.indexByte r.data.toList 45 < 0) : ∃ i : Nat, Lib.indexByte r.data.toList 45 = i ∧ splitL r.data.toList = r.data.toList.take i :: splitL (r.data.toList.drop (i + 1)) ∧ i < r.size ∧ wrap64 (i : Int) = i ∧ wrap64 ((i : Int) + 1) = (i : Int) + 1 := by
  obtain ⟨i, hi⟩ : ∃ i : Nat, Lib.indexByte r.data.toList 45 = i := ⟨(Lib.indexByte r.data.toList 45).toNat, by omega⟩
  obtain ⟨hsp, hil⟩ := splitL_some _ i hi
  have hsz : i < r.size := by simpa using hil
  exact ⟨i, hi, hsp, hsz, by unfold wrap64; omega, by unfold wrap64; omega⟩
theorem idx_none (r : ByteArray) (h : Lib.indexByte r.data.toList 45 < 0) : splitL r.data.toList = [r.data.toList] := splitL_none _ (by have := Lib.indexByte_ge r.data.toList 45; omega)
theorem idx_cut (r : ByteArray) (hb : r.size ≤ 1000) (h : ¬ Lib.indexByte r.data.toList 45 < 0) : splitL r.data.toList = (r.extract 0 (wrap64 (Lib.indexByte r.data.toList 45)).toNat).data.toList :: splitL (r.extract (wrap64 (Lib.indexByte r.data.toList 45 + 1)).toNat r.size).data.toList ∧
    0 ≤ wrap64 (Lib.indexByte r.data.toList 45) ∧ wrap64 (Lib.indexByte r.data.toList 45) ≤ r.size ∧ 0 ≤ wrap64 (Lib.indexByte r.data.toList 45 + 1) ∧ wrap64 (Lib.indexByte r.data.toList 45 + 1) ≤ r.size ∧ (r.extract (wrap64 (Lib.indexByte r.data.toList 45 + 1)).toNat r.size).size < r.size := by
  obtain ⟨i, hi, h1, h2, h3, h4⟩ := idx_facts r hb h
  rw [hi, h3, h4, h1]
  refine ⟨?_, by omega, by omega, by omega, by omega, ?_⟩
  · congr 1
    · simp
    · congr 1
      rw [show ((i : Int) + 1).toNat = i + 1 by omega]
      simp only [ByteArray.data_extract, Array.toList_extract, List.extract_eq_take_drop]
      rw [List.take_of_length_le (by simp)]
  · simp; omega
def strs (l : List UInt8) : List ByteArray := (splitL l).map fun p => ⟨p.toArray⟩
theorem strs_one {r : ByteArray} (h : splitL r.data.toList = [r.data.toList]) : strs r.data.toList = [r] := by rw [strs, h]; rfl
theorem strs_cut {l : List UInt8} {x y : ByteArray} (h : splitL l = x.data.toList :: splitL y.data.toList) : strs l = x :: strs y.data.toList := by rw [strs, h]; rfl
def cellSize (w : World) (b : Nat) : Nat := match w.cell? ⟨b, 0, none⟩ with
  | some (.string s) => s.size
  | _ => 0
theorem split1_in (n : Nat) (hn : 1 ≤ n) (l Bs n₀ N : Nat) (s0 : ByteArray) (J Jx : List ByteArray → World → Prop) (hN : (strs s0.data.toList).length ≤ N)
    (hJs : ∀ pre W v, J pre W → J pre (W.setCell ⟨Bs, 0, none⟩ (.string v)))
    (hY : ∀ pre x W, J pre W → pre.length < N → x.size ≤ s0.size → YieldAt Fence.wide (n - 1) Tryz.prog l #[.string x] W fun e W' =>
      (e = .returned (.bool true) ∧ J (pre ++ [x]) W' ∧ Below n₀ W W') ∨ (e = .returned (.bool false) ∧ Jx (pre ++ [x]) W'))
    (W : World) (hs : W.cell? ⟨Bs, 0, none⟩ = some (.string s0)) (hsf : W.frozen? ⟨Bs, 0, none⟩ = false) (hsep : W.cell? ⟨Bs + 1, 0, none⟩ = some (.string ⟨#[45]⟩)) (h3 : W.cell? ⟨Bs + 2, 0, none⟩ = some (.int .i64 0)) (hn0 : Bs + 3 ≤ n₀) (h0 : J [] W) (hs0 : s0.size ≤ 1000) :
    CallsIn Fence.wide n Tryz.prog 116 #[.func (.yield l) #[] #[], .pointer (some ⟨Bs + 1, 0, none⟩), .pointer (some ⟨Bs, 0, none⟩), .pointer (some ⟨Bs + 2, 0, none⟩)] W fun e W' => (∃ v, e = .returned v) ∧
      ((∃ ys, ys = strs s0.data.toList ∧ J ys W') ∨ (∃ pre, pre <+: strs s0.data.toList ∧ Jx pre W')) := by
  refine callsIn_of_wp Tryz.func116 rfl trivial ?_ rfl
  simp only [Tryz.ntmps116, List.size_toArray, List.length_cons, List.length_nil, Nat.reduceAdd, Nat.reduceSub, Array.replicate_succ, Array.replicate_zero, List.push_toArray, List.append_toArray, List.nil_append, List.cons_append]
  gi_wp2
  gi_loopw [7] (fun p wr => ∃ (pre : List ByteArray) (rest : ByteArray), strs s0.data.toList = pre ++ strs rest.data.toList ∧ wr.cell? ⟨Bs, 0, none⟩ = some (.string rest) ∧ wr.frozen? ⟨Bs, 0, none⟩ = false ∧ wr.cell? ⟨Bs + 1, 0, none⟩ = some (.string ⟨#[45]⟩) ∧ wr.cell? ⟨Bs + 2, 0, none⟩ = some (.int .i64 0) ∧ rest.size ≤ s0.size ∧ J pre wr)
    (fun p wr => cellSize wr Bs)
  case atStart =>
    exact ⟨[], s0, rfl, hs, hsf, hsep, h3, Nat.le_refl _, h0⟩
  case round =>
    obtain ⟨pre, rest, hx, c1, c2, c3, c4, c5, hJp⟩ := hrel
    have hge := Lib.indexByte_ge rest.data.toList 45
    have hpl : pre.length < N := by
      have h1 := congrArg List.length hx
      have h2 : 0 < (strs rest.data.toList).length := by
        have := splitL_ne rest.data.toList
        rw [strs, List.length_map]; exact List.length_pos_iff.2 this
      rw [List.length_append] at h1; omega
    by_cases hneg : Lib.indexByte rest.data.toList 45 < 0
    · have hq : Hid (pre.length < N ∧ -1 ≤ Lib.indexByte rest.data.toList 45 ∧ strs s0.data.toList = pre ++ strs rest.data.toList) := ⟨hpl, hge, hx⟩
      clear hpl hge hx
      gi_wp2_with (refine ⟨trivial, ?_⟩; gi_at_call 117; refine (callsIn_wide.2 (index_w rest 45 wr)).mono ?_; rintro e w' ⟨rfl, rfl⟩)
      obtain ⟨fn, tmps, assign, body, hy, hR⟩ := hY pre rest w' hJp hq.out.1 c5
      rw [hy]
      gi_wp2
      refine hR.mono ?_
      rintro e W3 (⟨rfl, hJ3, hk3⟩ | ⟨rfl, hJx3⟩)
      · gi_wp2
        go_end0
        exact ⟨⟨_, rfl⟩, .inl ⟨_, (by rw [hq.out.2.2, strs_one (idx_none rest hneg)]), hJ3⟩⟩
      · gi_wp2
        go_end0
        exact ⟨⟨_, rfl⟩, .inr ⟨_, (by rw [hq.out.2.2, strs_one (idx_none rest hneg)]; exact List.prefix_refl _), hJx3⟩⟩
    · have hq : Hid (pre.length < N ∧ strs s0.data.toList = pre ++ strs rest.data.toList) := ⟨hpl, hx⟩
      clear hpl hge hx
      gi_wp2_with (refine ⟨trivial, ?_⟩; gi_at_call 117; refine (callsIn_wide.2 (index_w rest 45 wr)).mono ?_; rintro e w' ⟨rfl, rfl⟩)
      · have hz := idx_cut rest (Nat.le_trans c5 hs0) (Int.not_lt.2 hneg)
        obtain ⟨fn, tmps, assign, body, hy, hR⟩ := hY pre (rest.extract 0 (wrap64 (Lib.indexByte rest.data.toList 45)).toNat) w' hJp hq.out.1 (by simp; omega)
        have hz' : Hid _ := hz
        clear hz
        rw [hy]
        gi_wp2
        refine hR.mono ?_
        rintro e W3 (⟨rfl, hJ3, hk3⟩ | ⟨rfl, hJx3⟩)
        · have d1 := (hk3.cell (p := ⟨Bs, 0, none⟩) (by show Bs < n₀; omega)).trans c1
          have d2 := (hk3.cell (p := ⟨Bs + 1, 0, none⟩) (by show Bs + 1 < n₀; omega)).trans c3
          have d3 := (hk3.cell (p := ⟨Bs + 2, 0, none⟩) (by show Bs + 2 < n₀; omega)).trans c4
          have d4 : W3.frozen? ⟨Bs, 0, none⟩ = false := (hk3.frozen (p := ⟨Bs, 0, none⟩) (by show Bs < n₀; omega)).trans c2
          gi_wp2
          · refine ⟨⟨pre ++ [rest.extract 0 (wrap64 (Lib.indexByte rest.data.toList 45)).toNat], rest.extract (wrap64 (Lib.indexByte rest.data.toList 45 + 1)).toNat rest.size, ?_, World.cell?_setCell_same' _ _ _ (by rw [d1]; rfl), ?_, ?_, ?_, ?_, hJs _ _ _ hJ3⟩, ?_⟩
            · rw [hq.out.2, strs_cut hz'.out.1]; simp
            · rw [World.frozen?_setCell]; exact d4
            · rw [World.cell?_setCell_other _ _ _ _ (by simp)]; exact d2
            · rw [World.cell?_setCell_other _ _ _ _ (by simp)]; exact d3
            · exact Nat.le_trans (Nat.le_of_lt hz'.out.2.2.2.2.2) c5
            · rw [cellSize, cellSize, World.cell?_setCell_same' _ _ _ (by rw [d1]; rfl), c1]
              exact hz'.out.2.2.2.2.2
          · rename_i hb
            exact absurd ⟨hz'.out.2.2.2.1, hz'.out.2.2.2.2.1⟩ hb
        · gi_wp2
          refine bodyPost_ret (results_none rfl _ _ _) rfl ?_
          exact ⟨⟨_, rfl⟩, .inr ⟨_, (by rw [hq.out.2, strs_cut hz'.out.1]; exact ⟨strs (rest.extract (wrap64 (Lib.indexByte rest.data.toList 45 + 1)).toNat rest.size).data.toList, by simp⟩), hJx3⟩⟩
      · exfalso
        have hz := idx_cut rest (Nat.le_trans c5 hs0) (Int.not_lt.2 hneg)
        rename_i hb
        exact hb ⟨hz.2.1, hz.2.2.1⟩
end Go.Proofs.YtmhbibfkhbaclaaGreatDoor

/- A range over a function whose iterator writes a cell of its own: the law, for a body that goes on or returns. -/
namespace Go.Proofs.YtmhbibfkhbaclaaGreatDoor
set_option linter.unusedVariables false
set_option linter.unusedSimpArgs false
open Go Go.RowKit Go.Shelf
attribute [local go_sem] Oper.semAt_some
set_option maxHeartbeats 4000000
set_option maxRecDepth 100000
/-- The loop's record and its block of deferred calls, as they stand. -/
structure Book (D : Nat) (L : Loop) (W : World) : Prop where
  loop : W.heap[D + 1]? = some (.loop L)
  dfr : W.heap[D]? = some (.deferred (some []))
theorem Book.lt {D : Nat} {L : Loop} {W : World} (h : Book D L W) : D + 1 < W.heap.size := (Array.getElem?_eq_some_iff.1 h.loop).1
theorem Book.set {D : Nat} {L : Loop} {W : World} (h : Book D L W) (L' : Loop) : Book D L' (W.putObj (D + 1) (.loop L')) :=
  ⟨World.putObj_heap_same h.lt, (World.putObj_heap_other (by omega)).trans h.dfr⟩
theorem Book.cell {D : Nat} {L : Loop} {W : World} (h : Book D L W) {B : Nat} (hB : B < D) (v : Value) : Book D L (W.setCell ⟨B, 0, none⟩ v) :=
  ⟨(Below.heap_setCell W _ v _ (by show D + 1 ≠ B; omega)).trans h.loop, (Below.heap_setCell W _ v _ (by show D ≠ B; omega)).trans h.dfr⟩
theorem Book.kept {D : Nat} {L : Loop} {W W' : World} (h : Book D L W) (hk : KeepsOthers W W') : Book D L W' := ⟨hk.same _ _ h.loop rfl, hk.same _ _ h.dfr rfl⟩
theorem below_set {n₀ D : Nat} {W : World} {L : Loop} (h : Book D L W) (hn : n₀ ≤ D) (o : Obj) : Below n₀ W (W.putObj (D + 1) o) :=
  (Below.refl n₀ W).grown (grownBy_putObj' W (D + 1) o) (by have := h.lt; omega) (fun k e => by cases e; omega)
theorem range_own {α : Type} {P : Program} {n : Nat} {g : Operand} {ps : Array Tmp} {assign body : Code} {Q : Exit → Act → World → Prop} {a : Act} {w : World} {gf : Nat} {lb : Array Value} {enc : α → Array Value} {Bs n₀ N : Nat} {xs : List α} {Px : α → Prop}
    (hn : 1 ≤ n) (hg : a.eval g = .func (.func gf) #[] lb) (heg : ∀ args w, (callFunc gf args).run P w = .ok (.enter gf args) w) (henc : ∀ x, (enc x).size = ps.size) (hB : Bs < w.heap.size) (hn₀ : n₀ ≤ w.heap.size)
    (iter : ∀ (l : Nat) (J Jx : List α → World → Prop) (W : World), Below w.heap.size w W → (∀ pre V v, J pre V → J pre (V.setCell ⟨Bs, 0, none⟩ v)) →
      (∀ pre x V, J pre V → pre.length < N → Px x → YieldAt Fence.wide (n - 1 - 1) P l (enc x) V fun e V' => (e = .returned (.bool true) ∧ J (pre ++ [x]) V' ∧ Below n₀ V V') ∨ (e = .returned (.bool false) ∧ Jx (pre ++ [x]) V')) →
      J [] W → CallsIn Fence.wide (n - 1) P gf (#[.func (.yield l) #[] #[]] ++ lb) W fun e V => (∃ v, e = .returned v) ∧ ((∃ ys, ys = xs ∧ J ys V) ∨ (∃ pre, pre <+: xs ∧ Jx pre V)))
    (I Ix : List α → World → Prop) (hI : OwnFrom w.heap.size I) (hIx : OwnFrom w.heap.size Ix) (hIs : ∀ pre V v, I pre V → I pre (V.setCell ⟨Bs, 0, none⟩ v)) (h0 : I [] w) (act : α → Act)
    (hassign : ∀ (l : Nat) (x : α) (V : World) (K : Act → World → Prop), K (act x) V →
      assign.wpIn (Fence.wide.inRound l) (n - 1 - 1) P (Exit.then K (fun _ _ _ => False)) { tmps := (ps.zip (enc x)).foldl (fun t (p, v) => t.setIfInBounds p v) a.tmps, defers := [] } V)
    (hbody : ∀ (l : Nat) (pre : List α) (x : α) (V : World), I pre V → Px x → w.heap.size ≤ V.heap.size → body.wpIn (Fence.wide.inRound l) (n - 1 - 1) P
      (fun e _ V' => (e = .normal ∧ KeepsOthers V V' ∧ Below n₀ V V' ∧ I (pre ++ [x]) V') ∨ (e = .ret ∧ KeepsOthers V V' ∧ Ix (pre ++ [x]) V')) (act x) V)
    (hdone : ∀ V, I xs V → V.heap[w.heap.size]? = some (.deferred (some [])) → Q .normal { a with defers := { target := .collected w.heap.size, args := #[] } :: a.defers } V)
    (hstop : ∀ pre V, pre <+: xs → Ix pre V → V.heap[w.heap.size]? = some (.deferred (some [])) → Code.ret.wpIn Fence.wide n P Q { a with defers := { target := .collected w.heap.size, args := #[] } :: a.defers } V) :
    (Code.rangeFunc g ps assign body).wpIn Fence.wide n P Q a w := by
  refine wpIn_rangeFunc (fun fn hfn => ?_)
  let rc : LoopState → Option Code → Loop := fun st pe => { state := st, pending := pe, fn, tmps := a.tmps, params := ps, assign, body, defers := w.heap.size }
  let W1 := (w.alloc (.deferred (some []))).alloc (.loop (rc .ready none))
  have b1 : Book w.heap.size (rc .ready none) W1 := by
    refine ⟨?_, (Below.heap_alloc _ _ _ (by simp)).trans (World.alloc_heap_new w _)⟩
    have := World.alloc_heap_new (w.alloc (.deferred (some []))) (.loop (rc .ready none))
    rwa [World.size_alloc] at this
  have i1 : I [] W1 := hI.alloc _ (hI.alloc _ h0)
  have hbel : Below w.heap.size w W1 := ((Below.refl _ w).alloc (Nat.le_refl _) _).alloc (by simp) _
  have put : ∀ {X : List α → World → Prop} {s : List α} {V : World} {L : Loop} (o : Obj), OwnFrom w.heap.size X → X s V → Book w.heap.size L V → X s (V.putObj (w.heap.size + 1) o) :=
    fun o hX hx hb => hX.putObj o hx (by omega) hb.loop rfl
  refine ⟨w.heap.size + 1, [{ target := .collected w.heap.size, args := #[] }], W1, { target := .fn (.func gf) lb, args := #[.func (.yield (w.heap.size + 1)) #[] #[]] }, W1, gf, #[.func (.yield (w.heap.size + 1)) #[] #[]] ++ lb, W1, run_enterLoop_outer _ _ _ _ _, ?_, fun _ _ => trivial, ?_, fun _ => hn, ?_⟩
  · simp only [resolve, hg]; simp [go_sem]
  · simp [invoke, go_sem, heg]
  refine (iter (w.heap.size + 1) (fun pre V => I pre V ∧ Book w.heap.size (rc .ready none) V) (fun pre V => Ix pre V ∧ Book w.heap.size (rc .done (some .ret)) V) W1 hbel (fun pre V v h => ⟨hIs pre V v h.1, h.2.cell hB v⟩) (fun pre x V h hlen hpx => ?_) ⟨i1, b1⟩).mono ?_
  · -- a round
    obtain ⟨hi, hb⟩ := h
    have hbz := hb.set { rc .ready none with state := .busy }
    refine ⟨fn, _, assign, body, run_yield (args := enc x) hb.loop (henc x), roundIn_of_wpIn hfn (hassign _ x V _ ⟨_, run_beginRound hb.loop rfl, ?_⟩)⟩
    refine wpIn_mono (hbody _ pre x _ (put _ hI hi hb) hpx (Nat.le_of_lt (Nat.lt_of_le_of_lt (Nat.le_succ _) hbz.lt))) ?_
    rintro e a3 V3 (⟨rfl, hk, hbl, hi3⟩ | ⟨rfl, hk, hi3⟩)
    · have hb3 := hbz.kept hk
      exact ⟨_, _, run_endRound none hb3.loop, .inl ⟨rfl, ⟨put _ hI hi3 hb3, hb3.set (rc .ready none)⟩, ((below_set hb hn₀ _).trans hbl).trans (below_set hb3 hn₀ _)⟩⟩
    · have hb3 := hbz.kept hk
      exact ⟨_, _, run_endRound (some .ret) hb3.loop, .inr ⟨rfl, put _ hIx hi3 hb3, hb3.set (rc .done (some .ret))⟩⟩
  · -- behind the iterator
    rintro e V ⟨⟨v, rfl⟩, ⟨ys, rfl, hi, hb⟩ | ⟨pre, hp, hi, hb⟩⟩
    · exact ⟨none, _, run_endLoop hb.loop (by simp [rc]), hdone _ (put _ hI hi hb) (hb.set _).dfr⟩
    · exact ⟨some .ret, _, run_endLoop hb.loop (by simp [rc]), hstop pre _ hp (put _ hIx hi hb) (hb.set _).dfr⟩
end Go.Proofs.YtmhbibfkhbaclaaGreatDoor
