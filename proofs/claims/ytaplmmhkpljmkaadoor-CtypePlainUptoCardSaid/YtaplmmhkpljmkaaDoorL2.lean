/- A range over a function whose iterator writes a cell of its own: the law, for a body that goes on or returns. -/
import Derived.RangeFuncFrom
import Derived.Test.YtaplmmhkpljmkaaDoorL1
namespace Go.Proofs.YtaplmmhkpljmkaaDoor
set_option linter.unusedVariables false
set_option linter.unusedSimpArgs false
open Go Go.RowKit Go.Shelf
attribute [local go_sem] Oper.semAt_some
set_option maxHeartbeats 4000000
set_option maxRecDepth 100000
/-- The loop's record and its block of deferred calls, as they stand. -/
structure Book (D : Nat) (L : Loop) (W : World) : Prop where
  loop : W.heap[D + 1]? = some (.loop L)
  dfr : W.heap[D]? = some (.deferred (some []))
theorem Book.lt {D : Nat} {L : Loop} {W : World} (h : Book D L W) : D + 1 < W.heap.size := (Array.getElem?_eq_some_iff.1 h.loop).1
theorem Book.set {D : Nat} {L : Loop} {W : World} (h : Book D L W) (L' : Loop) : Book D L' (W.putObj (D + 1) (.loop L')) :=
  ⟨World.putObj_heap_same h.lt, (World.putObj_heap_other (by omega)).trans h.dfr⟩
theorem Book.cell {D : Nat} {L : Loop} {W : World} (h : Book D L W) {B : Nat} (hB : B < D) (v : Value) : Book D L (W.setCell ⟨B, 0, none⟩ v) :=
  ⟨(Below.heap_setCell W _ v _ (by show D + 1 ≠ B; omega)).trans h.loop, (Below.heap_setCell W _ v _ (by show D ≠ B; omega)).trans h.dfr⟩
theorem Book.kept {D : Nat} {L : Loop} {W W' : World} (h : Book D L W) (hk : KeepsOthers W W') : Book D L W' := ⟨hk.same _ _ h.loop rfl, hk.same _ _ h.dfr rfl⟩
theorem below_set {n₀ D : Nat} {W : World} {L : Loop} (h : Book D L W) (hn : n₀ ≤ D) (o : Obj) : Below n₀ W (W.putObj (D + 1) o) :=
  (Below.refl n₀ W).grown (grownBy_putObj' W (D + 1) o) (by have := h.lt; omega) (fun k e => by cases e; omega)
theorem range_own {α : Type} {P : Program} {n : Nat} {g : Operand} {ps : Array Tmp} {assign body : Code} {Q : Exit → Act → World → Prop} {a : Act} {w : World} {gf : Nat} {lb : Array Value} {enc : α → Array Value} {Bs n₀ N : Nat} {xs : List α} {Px : α → Prop}
    (hn : 1 ≤ n) (hg : a.eval g = .func (.func gf) #[] lb) (heg : ∀ args w, (callFunc gf args).run P w = .ok (.enter gf args) w) (henc : ∀ x, (enc x).size = ps.size) (hB : Bs < w.heap.size) (hn₀ : n₀ ≤ w.heap.size)
    (iter : ∀ (l : Nat) (J Jx : List α → World → Prop) (W : World), Below w.heap.size w W → (∀ pre V v, J pre V → J pre (V.setCell ⟨Bs, 0, none⟩ v)) →
      (∀ pre x V, J pre V → pre.length < N → Px x → YieldAt Fence.wide (n - 1 - 1) P l (enc x) V fun e V' => (e = .returned (.bool true) ∧ J (pre ++ [x]) V' ∧ Below n₀ V V') ∨ (e = .returned (.bool false) ∧ Jx (pre ++ [x]) V')) →
      J [] W → CallsIn Fence.wide (n - 1) P gf (#[.func (.yield l) #[] #[]] ++ lb) W fun e V => (∃ v, e = .returned v) ∧ ((∃ ys, ys = xs ∧ J ys V) ∨ (∃ pre, pre <+: xs ∧ Jx pre V)))
    (I Ix : List α → World → Prop) (hI : OwnFrom w.heap.size I) (hIx : OwnFrom w.heap.size Ix) (hIs : ∀ pre V v, I pre V → I pre (V.setCell ⟨Bs, 0, none⟩ v)) (h0 : I [] w) (act : α → Act)
    (hassign : ∀ (l : Nat) (x : α) (V : World) (K : Act → World → Prop), K (act x) V →
      assign.wpIn (Fence.wide.inRound l) (n - 1 - 1) P (Exit.then K (fun _ _ _ => False)) { tmps := (ps.zip (enc x)).foldl (fun t (p, v) => t.setIfInBounds p v) a.tmps, defers := [] } V)
    (hbody : ∀ (l : Nat) (pre : List α) (x : α) (V : World), I pre V → Px x → w.heap.size ≤ V.heap.size → body.wpIn (Fence.wide.inRound l) (n - 1 - 1) P
      (fun e _ V' => (e = .normal ∧ KeepsOthers V V' ∧ Below n₀ V V' ∧ I (pre ++ [x]) V') ∨ (e = .ret ∧ KeepsOthers V V' ∧ Ix (pre ++ [x]) V')) (act x) V)
    (hdone : ∀ V, I xs V → V.heap[w.heap.size]? = some (.deferred (some [])) → Q .normal { a with defers := { target := .collected w.heap.size, args := #[] } :: a.defers } V)
    (hstop : ∀ pre V, pre <+: xs → Ix pre V → V.heap[w.heap.size]? = some (.deferred (some [])) → Code.ret.wpIn Fence.wide n P Q { a with defers := { target := .collected w.heap.size, args := #[] } :: a.defers } V) :
    (Code.rangeFunc g ps assign body).wpIn Fence.wide n P Q a w := by
  refine wpIn_rangeFunc (fun fn hfn => ?_)
  let rc : LoopState → Option Code → Loop := fun st pe => { state := st, pending := pe, fn, tmps := a.tmps, params := ps, assign, body, defers := w.heap.size }
  let W1 := (w.alloc (.deferred (some []))).alloc (.loop (rc .ready none))
  have b1 : Book w.heap.size (rc .ready none) W1 := by
    refine ⟨?_, (Below.heap_alloc _ _ _ (by simp)).trans (World.alloc_heap_new w _)⟩
    have := World.alloc_heap_new (w.alloc (.deferred (some []))) (.loop (rc .ready none))
    rwa [World.size_alloc] at this
  have i1 : I [] W1 := hI.alloc _ (hI.alloc _ h0)
  have hbel : Below w.heap.size w W1 := ((Below.refl _ w).alloc (Nat.le_refl _) _).alloc (by simp) _
  have put : ∀ {X : List α → World → Prop} {s : List α} {V : World} {L : Loop} (o : Obj), OwnFrom w.heap.size X → X s V → Book w.heap.size L V → X s (V.putObj (w.heap.size + 1) o) :=
    fun o hX hx hb => hX.putObj o hx (by omega) hb.loop rfl
  refine ⟨w.heap.size + 1, [{ target := .collected w.heap.size, args := #[] }], W1, { target := .fn (.func gf) lb, args := #[.func (.yield (w.heap.size + 1)) #[] #[]] }, W1, gf, #[.func (.yield (w.heap.size + 1)) #[] #[]] ++ lb, W1, run_enterLoop_outer _ _ _ _ _, ?_, fun _ _ => trivial, ?_, fun _ => hn, ?_⟩
  · simp only [resolve, hg]; simp [go_sem]
  · simp [invoke, go_sem, heg]
  refine (iter (w.heap.size + 1) (fun pre V => I pre V ∧ Book w.heap.size (rc .ready none) V) (fun pre V => Ix pre V ∧ Book w.heap.size (rc .done (some .ret)) V) W1 hbel (fun pre V v h => ⟨hIs pre V v h.1, h.2.cell hB v⟩) (fun pre x V h hlen hpx => ?_) ⟨i1, b1⟩).mono ?_
  · -- a round
    obtain ⟨hi, hb⟩ := h
    have hbz := hb.set { rc .ready none with state := .busy }
    refine ⟨fn, _, assign, body, run_yield (args := enc x) hb.loop (henc x), roundIn_of_wpIn hfn (hassign _ x V _ ⟨_, run_beginRound hb.loop rfl, ?_⟩)⟩
    refine wpIn_mono (hbody _ pre x _ (put _ hI hi hb) hpx (Nat.le_of_lt (Nat.lt_of_le_of_lt (Nat.le_succ _) hbz.lt))) ?_
    rintro e a3 V3 (⟨rfl, hk, hbl, hi3⟩ | ⟨rfl, hk, hi3⟩)
    · have hb3 := hbz.kept hk
      exact ⟨_, _, run_endRound none hb3.loop, .inl ⟨rfl, ⟨put _ hI hi3 hb3, hb3.set (rc .ready none)⟩, ((below_set hb hn₀ _).trans hbl).trans (below_set hb3 hn₀ _)⟩⟩
    · have hb3 := hbz.kept hk
      exact ⟨_, _, run_endRound (some .ret) hb3.loop, .inr ⟨rfl, put _ hIx hi3 hb3, hb3.set (rc .done (some .ret))⟩⟩
  · -- behind the iterator
    rintro e V ⟨⟨v, rfl⟩, ⟨ys, rfl, hi, hb⟩ | ⟨pre, hp, hi, hb⟩⟩
    · exact ⟨none, _, run_endLoop hb.loop (by simp [rc]), hdone _ (put _ hI hi hb) (hb.set _).dfr⟩
    · exact ⟨some .ret, _, run_endLoop hb.loop (by simp [rc]), hstop pre _ hp (put _ hIx hi hb) (hb.set _).dfr⟩
end Go.Proofs.YtaplmmhkpljmkaaDoor
