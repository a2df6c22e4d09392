/- lex.Name: the walk. -/
import Derived.Test.YtaplmmhkpljmkaaDoorL3
namespace Go.Proofs.YtaplmmhkpljmkaaDoor
open Go Go.RowKit Go.Shelf E
attribute [local go_sem] Oper.semAt_some
set_option maxHeartbeats 4000000
set_option maxRecDepth 100000
set_option linter.unusedVariables false
set_option linter.unusedSimpArgs false
theorem part_w (x : ByteArray) (hx : x.size ≤ 1000) (V : World) : Calls Tryd.prog 59 #[.string x] V fun e w' => e = .returned (.bool (partOk (bs x))) ∧ Below V.heap.size V w' := pure_bool (part_p x hx) V
theorem alloc4 (w : World) (a b c d : Obj) : ((((w.alloc a).alloc b).alloc c).alloc d).heap[w.heap.size]? = some a ∧ ((((w.alloc a).alloc b).alloc c).alloc d).heap[w.heap.size + 1]? = some b ∧ ((((w.alloc a).alloc b).alloc c).alloc d).heap[w.heap.size + 2]? = some c ∧ ((((w.alloc a).alloc b).alloc c).alloc d).heap[w.heap.size + 3]? = some d ∧
    ((((w.alloc a).alloc b).alloc c).alloc d).heap.size = w.heap.size + 4 ∧ Below w.heap.size w ((((w.alloc a).alloc b).alloc c).alloc d) := by
  have h1 := World.alloc_heap_new w a
  have h2 := World.alloc_heap_new (w.alloc a) b
  have h3 := World.alloc_heap_new ((w.alloc a).alloc b) c
  have h4 := World.alloc_heap_new (((w.alloc a).alloc b).alloc c) d
  simp only [World.size_alloc] at h2 h3 h4
  refine ⟨?_, ?_, ?_, h4, by simp, (((Below.refl _ w).alloc (Nat.le_refl _) _).alloc (by simp) _).alloc (by simp; omega) _ |>.alloc (by simp; omega) _⟩
  · rw [Below.heap_alloc _ _ _ (by simp; omega), Below.heap_alloc _ _ _ (by simp; omega), Below.heap_alloc _ _ _ (by simp)]; exact h1
  · rw [Below.heap_alloc _ _ _ (by simp), Below.heap_alloc _ _ _ (by simp)]; exact h2
  · rw [Below.heap_alloc _ _ _ (by simp)]; exact h3
theorem cellAt1 {w : World} {B : Nat} {v : Value} {t : TypeId} (h : w.heap[B]? = some (.cells #[v] t)) : w.cell? ⟨B, 0, none⟩ = some v ∧ w.frozen? ⟨B, 0, none⟩ = false :=
  ⟨by rw [cell_at h]; rfl, by simp [World.frozen?, h]⟩
theorem empty_ok {s : ByteArray} (h : s.toList = []) : nameOk s = false := by
  have : s.size = 0 := by rw [← bs_length, bs, ← Lib.toList_data, h]; rfl
  rw [nameOk, this]; rfl
theorem long_ok {s : ByteArray} (h : s.toList.isEmpty = true ∨ 100 < (s.size : Int)) : nameOk s = false := by
  rcases h with h | h
  · exact empty_ok (List.isEmpty_iff.1 h)
  · rw [nameOk, show decide (s.size ≤ 100) = false by simp; omega]; simp
theorem ne_size {s : ByteArray} (h : ¬ s.toList = []) : 1 ≤ s.size := by
  rcases Nat.eq_zero_or_pos s.size with e | e
  · exfalso; apply h
    rw [Lib.toList_data]; rw [← bs_length, bs] at e; exact List.length_eq_zero_iff.1 e
  · exact e
theorem name_w (s : ByteArray) (w : World) : Calls Tryd.prog 54 #[.string s] w fun e w' => e = .returned (.bool (nameOk s)) ∧ Below w.heap.size w w' := by
  refine (callsIn_wide (n := 5)).1 ?_
  refine callsIn_of_wp_marks Tryd.func54 rfl trivial ?_ rfl
  simp only [Tryd.ntmps54, List.size_toArray, List.length_cons, List.length_nil, Nat.reduceAdd, Nat.reduceSub, Array.replicate_succ, Array.replicate_zero, List.push_toArray, List.append_toArray, List.nil_append, List.cons_append]
  gi_wp2_with (refine ⟨trivial, ?_⟩; gi_at_call 58; refine (callsIn_wide.2 (splitSeq_w _ _ _)).mono ?_; rintro e w' ⟨rfl, rfl⟩)
  · rename_i hE
    have hc := cellAt1 (World.alloc_heap_new w (.cells #[.bool false] 4))
    refine ⟨.bool false, ?_, by rw [empty_ok hE], (Below.refl _ w).alloc (Nat.le_refl _) _⟩
    simp [results, Tryd.f54, go_sem, hc.1]
  · rename_i hE
    have hc := cellAt1 (World.alloc_heap_new w (.cells #[.bool false] 4))
    refine ⟨.bool false, ?_, by rw [long_ok hE], (Below.refl _ w).alloc (Nat.le_refl _) _⟩
    simp [results, Tryd.f54, go_sem, hc.1]
  · rename_i hne hE _ _
    obtain ⟨g1, g2, g3, g4, g5, g6⟩ := alloc4 w (.cells #[.bool false] 4) (.cells #[.string s] 9) (.cells #[.string ⟨#[45]⟩] 9) (.cells #[.int .i64 0] 3)
    generalize ((((w.alloc (.cells #[.bool false] 4)).alloc (.cells #[.string s] 9)).alloc (.cells #[.string ⟨#[45]⟩] 9)).alloc (.cells #[.int .i64 0] 3)) = W4 at *
    have c0 := cellAt1 g1
    have c1 := cellAt1 g2
    have c2 := cellAt1 g3
    have c3 := cellAt1 g4
    have hs100 : s.size ≤ 100 := by omega
    have hs1 := ne_size hne
    clear hne hE g1 g2 g3 g4
    refine range_own (enc := fun x : ByteArray => #[.string x]) (Bs := w.heap.size + 1) (n₀ := w.heap.size + 4) (N := (strs s.data.toList).length) (xs := strs s.data.toList) (Px := fun x => x.size ≤ s.size) (by decide) rfl (enters_of Tryd.func75 (by kernel_rfl) rfl) (fun _ => rfl) (by omega) (by omega)
      (fun l J Jx W hW hJs hY h0 => split1_in (5 - 1) (by decide) l (w.heap.size + 1) (w.heap.size + 4) _ s J Jx (Nat.le_refl _) (fun pre V v => hJs pre V _) hY W ((hW.cell (p := ⟨w.heap.size + 1, 0, none⟩) (by show (_ : Nat) < W4.heap.size; simp only; omega)).trans c1.1) ((hW.frozen (p := ⟨w.heap.size + 1, 0, none⟩) (by show (_ : Nat) < W4.heap.size; simp only; omega)).trans c1.2) ((hW.cell (p := ⟨w.heap.size + 1 + 1, 0, none⟩) (by show (_ : Nat) < W4.heap.size; simp only; omega)).trans c2.1) ((hW.cell (p := ⟨w.heap.size + 1 + 2, 0, none⟩) (by show (_ : Nat) < W4.heap.size; simp only; omega)).trans c3.1) (by omega) h0 (by omega))
      (fun pre V => (V.cell? ⟨w.heap.size, 0, none⟩ = some (.bool false) ∧ V.frozen? ⟨w.heap.size, 0, none⟩ = false ∧ ∀ p ∈ pre, partOk (bs p) = true) ∧ Below w.heap.size w V)
      (fun pre V => (V.cell? ⟨w.heap.size, 0, none⟩ = some (.bool false) ∧ ∃ p ∈ pre, partOk (bs p) = false) ∧ Below w.heap.size w V)
      (OwnFrom.and (Own.from (fun s A B row hs hg hr => ⟨cell_kept hs.1 hg hr, (frozen_kept hs.1 hg hr).trans hs.2.1, hs.2.2⟩) _) (ownFrom_below (Nat.le_refl _) (by omega)))
      (OwnFrom.and (Own.from (fun s A B row hs hg hr => ⟨cell_kept hs.1 hg hr, hs.2⟩) _) (ownFrom_below (Nat.le_refl _) (by omega)))
      (fun pre V v h => ⟨⟨(World.cell?_setCell_other V ⟨w.heap.size + 1, 0, none⟩ ⟨w.heap.size, 0, none⟩ _ (by simp)).trans h.1.1, by rw [World.frozen?_setCell]; exact h.1.2.1, h.1.2.2⟩, h.2.setCell (p := ⟨w.heap.size + 1, 0, none⟩) (Nat.le_succ _) _⟩)
      ⟨⟨c0.1, c0.2, fun p hp => by simp at hp⟩, g6⟩
      (fun x => { tmps := #[.string s, undef, .pointer (some ⟨w.heap.size, 0, none⟩), .string x, .string s, .bool false, .bool false, .string s, .int .i64 s.size, .bool (decide (100 < (s.size : Int))), .bool (decide (100 < (s.size : Int))), .string s, .func (.func 75) #[] #[.pointer (some ⟨w.heap.size + 1 + 1, 0, none⟩), .pointer (some ⟨w.heap.size + 1, 0, none⟩), .pointer (some ⟨w.heap.size + 1 + 2, 0, none⟩)], .string x, undef, undef, undef], defers := [] }) ?assign ?body ?done ?stop
    case assign =>
      intro l x V K hK
      gi_wp2
      exact hK
    case body =>
      rintro l pre x V ⟨⟨hc, hf, hp⟩, hB⟩ hx hVs
      have hVl : w.heap.size < V.heap.size := by omega
      gi_wp2_with (refine ⟨trivial, ?_⟩; gi_at_call 59; refine (CallsIn.inRound l (callsIn_wide.2 (part_w x (by omega) V))).mono ?_; rintro e W1 ⟨rfl, hb1⟩; have hc1 := (hb1.cell (p := ⟨w.heap.size, 0, none⟩) hVl).trans hc; have hf1 := (hb1.frozen (p := ⟨w.heap.size, 0, none⟩) hVl).trans hf)
      · rename_i hno
        exact ⟨(Below.keeps hb1).trans (KeepsOthers.setCell _ _ _), (by first | exact .inr (by simpa using hno) | exact ⟨World.cell?_setCell_same' _ _ _ (by rw [hc1]; rfl), .inr (by simpa using hno)⟩), (hB.trans (hb1.mono hB.size)).setCell (p := ⟨w.heap.size, 0, none⟩) (Nat.le_refl _) _⟩
      · rename_i hyes
        exact ⟨Below.keeps hb1, hb1.mono (by omega), (by first | exact fun p h => h.elim (hp p) (fun e => by rw [e]; simpa using hyes) | exact ⟨hc1, hf1, fun p h => h.elim (hp p) (fun e => by rw [e]; simpa using hyes)⟩), hB.trans (hb1.mono hB.size)⟩
    case done =>
      rintro V ⟨⟨hc, hf, hp⟩, hB⟩ hK
      gi_wp2
      have hK' := (KeepsOthers.setCell V ⟨w.heap.size, 0, none⟩ (.bool true)).same _ _ hK rfl
      refine ⟨by simp, .inl ⟨_, _, rfl, run_takeDeferred hK', ?_⟩⟩
      have hc5 := cell_kept (World.cell?_setCell_same' V ⟨w.heap.size, 0, none⟩ (.bool true) (by rw [hc]; rfl)) (grownBy_putObj' _ W4.heap.size (.deferred none)) (fun r e => by cases e; exact ⟨_, hK', rfl⟩)
      have hbd := (Below.refl w.heap.size V).setCell (p := ⟨w.heap.size, 0, none⟩) (Nat.le_refl _) (.bool true)
      refine ⟨.bool true, ?_, ?_, (hB.trans hbd).grown (grownBy_putObj' _ W4.heap.size (.deferred none)) (hB.trans hbd).size (fun k e => by cases e; omega)⟩
      · simp [results, Tryd.f54, go_sem, hc5]
      · rw [nameOk_split, show decide (1 ≤ s.size) = true by simpa using hs1, show decide (s.size ≤ 100) = true by simpa using hs100, List.all_eq_true.2 hp]; rfl
    case stop =>
      rintro pre V hpre ⟨⟨hc, p, hp1, hp2⟩, hB⟩ hK
      gi_wp2
      refine ⟨by simp, .inl ⟨_, _, rfl, run_takeDeferred hK, ?_⟩⟩
      have hc5 := cell_kept hc (grownBy_putObj' _ W4.heap.size (.deferred none)) (fun r e => by cases e; exact ⟨_, hK, rfl⟩)
      refine ⟨.bool false, ?_, ?_, hB.grown (grownBy_putObj' _ W4.heap.size (.deferred none)) hB.size (fun k e => by cases e; omega)⟩
      · simp [results, Tryd.f54, go_sem, hc5]
      · have : ((strs s.data.toList).all fun p => partOk (bs p)) = false := List.all_eq_false.2 ⟨p, hpre.subset hp1, by simp [hp2]⟩
        rw [nameOk_split, this]; simp
theorem lexName_p : LexName := fun s _ => bool_pure (name_w s)
end Go.Proofs.YtaplmmhkpljmkaaDoor
