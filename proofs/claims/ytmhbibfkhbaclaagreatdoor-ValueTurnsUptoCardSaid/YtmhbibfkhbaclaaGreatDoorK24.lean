/- lex.Name. -/
import Derived.Test.YtmhbibfkhbaclaaGreatDoorK22
import Derived.Test.YtmhbibfkhbaclaaGreatDoorK23
import Derived.Test.YtmhbibfkhbaclaaGreatDoorK14
namespace Go.Proofs.YtmhbibfkhbaclaaGreatDoor
open Go Go.RowKit Go.Shelf E
attribute [local go_sem] Oper.semAt_some
set_option maxHeartbeats 4000000
set_option maxRecDepth 100000
set_option linter.unusedVariables false
set_option linter.unusedSimpArgs false
theorem kind_all : ∀ n : Fin 256, (kindOf (UInt8.ofNat n.val).toNat = 1 ↔ lowB (UInt8.ofNat n.val) = true) ∧ (kindOf (UInt8.ofNat n.val).toNat = 2 ↔ uppB (UInt8.ofNat n.val) = true) ∧ (kindOf (UInt8.ofNat n.val).toNat = 3 ↔ digB (UInt8.ofNat n.val) = true) ∧ (kindOf (UInt8.ofNat n.val).toNat = 4 ↔ UInt8.ofNat n.val = 45) ∧
    (lowB (UInt8.ofNat n.val) = true → uppB (UInt8.ofNat n.val) = false) := by decide +kernel
theorem kind_spec (c : UInt8) : (kindOf c.toNat = 1 ↔ lowB c = true) ∧ (kindOf c.toNat = 2 ↔ uppB c = true) ∧ (kindOf c.toNat = 3 ↔ digB c = true) ∧ (kindOf c.toNat = 4 ↔ c = 45) ∧ (lowB c = true → uppB c = false) := by
  have h := kind_all ⟨c.toNat, c.toNat_lt⟩
  simpa using h
theorem splitL_cons (c : UInt8) (cs : List UInt8) (h : c ≠ 45) : ∃ p ps, splitL cs = p :: ps ∧ splitL (c :: cs) = (c :: p) :: ps := by
  cases hs : splitL cs with
  | nil => exact absurd hs (splitL_ne cs)
  | cons p ps => exact ⟨p, ps, rfl, by rw [splitL, if_neg h, hs]⟩
theorem nmGo_split : ∀ l : List UInt8, (∀ z, nmGo true z l = (splitL l).all partOk) ∧ (∀ z p ps, z = 1 ∨ z = 2 → splitL l = p :: ps → nmGo false z l = (restOk (decide (z = 1)) p && ps.all partOk))
  | [] => ⟨fun z => rfl, fun z p ps _ h => by simp [splitL] at h; obtain ⟨rfl, rfl⟩ := h; rfl⟩
  | c :: cs => by
    obtain ⟨ih1, ih2⟩ := nmGo_split cs
    obtain ⟨k1, k2, k3, k4, k5⟩ := kind_spec c
    by_cases h45 : c = 45
    · subst h45
      have hs : splitL (45 :: cs) = [] :: splitL cs := by rw [splitL, if_pos rfl]
      refine ⟨fun z => ?_, fun z p ps hz h => ?_⟩
      · rw [hs]; simp [nmGo, partOk]; intro h; exfalso; revert h; decide
      · rw [hs] at h
        obtain ⟨rfl, rfl⟩ := List.cons.inj h
        rw [nmGo, if_pos (.inr (.inr (by decide))), restOk, Bool.true_and]
        exact ih1 z
    · obtain ⟨p, ps, hp, hs⟩ := splitL_cons c cs h45
      have hk4 : kindOf c.toNat ≠ 4 := fun e => h45 (k4.1 e)
      refine ⟨fun z => ?_, fun z p' ps' hz h => ?_⟩
      · rw [hs, List.all_cons, partOk, restOk, nmGo]
        by_cases hk : kindOf c.toNat = 1 ∨ kindOf c.toNat = 2
        · rw [if_pos hk, ih2 _ p ps hk hp]
          rcases hk with hk | hk
          · have := k1.1 hk; simp [hk, this]
          · have hu := k2.1 hk
            have hl : lowB c = false := by cases hl : lowB c with
              | false => rfl
              | true => have := k1.2 hl; omega
            simp [hk, hu, hl]
        · rw [if_neg hk]
          have h1 : lowB c = false := by cases h : lowB c with
            | false => rfl
            | true => exact absurd (.inl (k1.2 h)) hk
          have h2 : uppB c = false := by cases h : uppB c with
            | false => rfl
            | true => exact absurd (.inr (k2.2 h)) hk
          simp [h1, h2]
      · rw [hs] at h
        obtain ⟨rfl, rfl⟩ := List.cons.inj h
        rw [nmGo, restOk]
        have hd : decide (c = 45) = false := by simp [h45]
        by_cases hc : kindOf c.toNat = z ∨ kindOf c.toNat = 3 ∨ kindOf c.toNat = 4
        · rw [if_pos hc, hd, ih2 z p ps hz hp]
          have : (digB c || (lowB c == decide (z = 1) && (lowB c || uppB c))) = true := by
            rcases hc with hc | hc | hc
            · rcases hz with rfl | rfl
              · simp [k1.1 hc]
              · have hu := k2.1 hc
                have hl : lowB c = false := by cases hl : lowB c with
                  | false => rfl
                  | true => have := k1.2 hl; omega
                simp [hu, hl]
            · simp [k3.1 hc]
            · exact absurd hc hk4
          rw [this, Bool.true_and]
        · rw [if_neg hc]
          have h3 : digB c = false := by cases h : digB c with
            | false => rfl
            | true => exact absurd (.inr (.inl (k3.2 h))) hc
          have : (lowB c == decide (z = 1) && (lowB c || uppB c)) = false := by
            rcases hz with rfl | rfl
            · have h1 : lowB c = false := by cases h : lowB c with
                | false => rfl
                | true => exact absurd (.inl (k1.2 h)) hc
              simp [h1]
            · have h2 : uppB c = false := by cases h : uppB c with
                | false => rfl
                | true => exact absurd (.inl (k2.2 h)) hc
              cases hl : lowB c <;> simp [h2]
          rw [h3, this]; rfl
theorem nameOk_split (s : ByteArray) : nameOk s = (decide (1 ≤ s.size) && decide (s.size ≤ 100) && (strs s.data.toList).all fun p => partOk (bs p)) := by
  rw [nameOk, (nmGo_split (bs s)).1 0, strs, List.all_map]
  rfl
/-- The tables lie in a world. -/
structure TabW (w : World) : Prop where
  at_ : ∀ g cs, tab g = some cs → ∀ (j : Nat) (v : Value), cs[j]? = some v → w.cell? ⟨g, j, none⟩ = some v ∧ sc v = true ∧ v.oneCell' = true
  size : ∀ g cs, tab g = some cs → cs ≠ [] → szW w g = some cs.length
theorem TabW.of {F : FMem} {w : World} (h : FOK F w) : TabW w := ⟨fun g cs hg j v hv =>
  let ⟨h1, h2⟩ := h.tabs g cs hg j v hv
  ⟨(h.cell _ _ h1).1, h2, (h.cell _ _ h1).2⟩, h.size⟩
theorem TabW.below {w V : World} (h : TabW w) (hb : Below w.heap.size w V) : TabW V := ⟨fun g cs hg j v hv =>
  let ⟨h1, h2⟩ := h.at_ g cs hg j v hv
  ⟨(hb.cell (cell_lt h1)).trans h1, h2⟩, fun g cs hg hn => by
    cases cs with
    | nil => exact absurd rfl hn
    | cons c cs => exact szW_block (hb.block g (cell_lt (h.at_ g _ hg 0 c rfl).1)) (h.size g _ hg hn)⟩
def tabF : FMem := fun a => match a.spot with
  | none => (tab a.block).bind fun cs => cs[a.off]?
  | some _ => none
theorem TabW.fok {w : World} (h : TabW w) : FOK tabF w := by
  refine ⟨fun a u e => ?_, fun g cs hg j v hv => ⟨by simp [tabF, hg, hv], (h.at_ g cs hg j v hv).2.1⟩, h.size⟩
  obtain ⟨B, o, sp⟩ := a
  cases sp with
  | some => simp [tabF] at e
  | none =>
    simp only [tabF, Option.bind_eq_some_iff] at e
    obtain ⟨cs, h1, h2⟩ := e
    exact ⟨(h.at_ B cs h1 o u h2).1, (h.at_ B cs h1 o u h2).2.2⟩
/-- A contract, as the kit says it. -/
theorem pure_bool {P : Program} {f : FuncId} {s : ByteArray} {b : Bool} (h : E.Pure P f [tStr s] (.one (.t (tBool b)))) (V : World) (hT : TabW V) : Calls P f #[.string s] V fun e w' => e = .returned (.bool b) ∧ Below V.heap.size V w' := by
  refine (h tabF #[.string s] V hT.fok rfl (fun i x v h1 h2 => ?_)).mono ?_
  · cases i with
    | zero => simp at h1 h2; subst h1; subst h2; exact .v rfl
    | succ i => simp at h1
  · rintro e w' ⟨rv, F', rfl, _, _, _, hb, hr⟩
    cases hr with | one hr => cases hr with | t ht => cases ht with | v _ => exact ⟨rfl, hb⟩
theorem bool_pure {P : Program} {f : FuncId} {s : ByteArray} {b : Bool} (h : ∀ V : World, TabW V → Calls P f #[.string s] V fun e w' => e = .returned (.bool b) ∧ Below V.heap.size V w') : E.Pure P f [tStr s] (.one (.t (tBool b))) := by
  intro F vs w hF hn hv
  have hs : vs.size = 1 := by simpa using hn.symm
  have h0 := hv 0 _ vs[0] rfl (Array.getElem?_eq_getElem (by omega))
  have hvs : vs = #[.string s] := by
    apply Array.ext
    · simpa using hs
    · intro i h1 h2
      have hi : i = 0 := by omega
      subst hi
      generalize vs[0] = q at h0 ⊢
      cases h0; rfl
  subst hvs
  refine (h w (TabW.of hF)).mono ?_
  rintro e w' ⟨rfl, hb⟩
  refine ⟨_, F, rfl, FMem.le_refl F, hF.grow (FMem.le_refl F) (fun a u e => ?_) (fun g j u n _ hc h2 => szW_block (hb.block _ (cell_lt hc)) h2), fun a hx => absurd rfl hx, hb, .one (b := none) (.t (.v rfl))⟩
  obtain ⟨h1, h2⟩ := hF a u e
  exact ⟨by rw [hb.cell (cell_lt h1)]; exact h1, h2⟩
theorem Below.keeps {V W : World} (h : Below V.heap.size V W) : KeepsOthers V W := ⟨h.size, fun k o hk _ => by rw [h.block k (Array.getElem?_eq_some_iff.1 hk).1]; exact hk⟩
end Go.Proofs.YtmhbibfkhbaclaaGreatDoor

/- lex.Name: the walk. -/
namespace Go.Proofs.YtmhbibfkhbaclaaGreatDoor
open Go Go.RowKit Go.Shelf E
attribute [local go_sem] Oper.semAt_some
set_option maxHeartbeats 4000000
set_option maxRecDepth 100000
set_option linter.unusedVariables false
set_option linter.unusedSimpArgs false
theorem part_w (x : ByteArray) (hx : x.size ≤ 1000) (V : World) (hT : TabW V) : Calls Tryz.prog 94 #[.string x] V fun e w' => e = .returned (.bool (partOk (bs x))) ∧ Below V.heap.size V w' := pure_bool (part_p x hx) V hT
theorem alloc4 (w : World) (a b c d : Obj) : ((((w.alloc a).alloc b).alloc c).alloc d).heap[w.heap.size]? = some a ∧ ((((w.alloc a).alloc b).alloc c).alloc d).heap[w.heap.size + 1]? = some b ∧ ((((w.alloc a).alloc b).alloc c).alloc d).heap[w.heap.size + 2]? = some c ∧ ((((w.alloc a).alloc b).alloc c).alloc d).heap[w.heap.size + 3]? = some d ∧
    ((((w.alloc a).alloc b).alloc c).alloc d).heap.size = w.heap.size + 4 ∧ Below w.heap.size w ((((w.alloc a).alloc b).alloc c).alloc d) := by
  have h1 := World.alloc_heap_new w a
  have h2 := World.alloc_heap_new (w.alloc a) b
  have h3 := World.alloc_heap_new ((w.alloc a).alloc b) c
  have h4 := World.alloc_heap_new (((w.alloc a).alloc b).alloc c) d
  simp only [World.size_alloc] at h2 h3 h4
  refine ⟨?_, ?_, ?_, h4, by simp, (((Below.refl _ w).alloc (Nat.le_refl _) _).alloc (by simp) _).alloc (by simp; omega) _ |>.alloc (by simp; omega) _⟩
  · rw [Below.heap_alloc _ _ _ (by simp; omega), Below.heap_alloc _ _ _ (by simp; omega), Below.heap_alloc _ _ _ (by simp)]; exact h1
  · rw [Below.heap_alloc _ _ _ (by simp), Below.heap_alloc _ _ _ (by simp)]; exact h2
  · rw [Below.heap_alloc _ _ _ (by simp)]; exact h3
theorem cellAt1 {w : World} {B : Nat} {v : Value} {t : TypeId} (h : w.heap[B]? = some (.cells #[v] t)) : w.cell? ⟨B, 0, none⟩ = some v ∧ w.frozen? ⟨B, 0, none⟩ = false :=
  ⟨by rw [cell_at h]; rfl, by simp [World.frozen?, h]⟩
theorem empty_ok {s : ByteArray} (h : s.toList = []) : nameOk s = false := by
  have : s.size = 0 := by rw [← bs_length, bs, ← Lib.toList_data, h]; rfl
  rw [nameOk, this]; rfl
theorem long_ok {s : ByteArray} (h : s.toList.isEmpty = true ∨ 100 < (s.size : Int)) : nameOk s = false := by
  rcases h with h | h
  · exact empty_ok (List.isEmpty_iff.1 h)
  · rw [nameOk, show decide (s.size ≤ 100) = false by simp; omega]; simp
theorem ne_size {s : ByteArray} (h : ¬ s.toList = []) : 1 ≤ s.size := by
  rcases Nat.eq_zero_or_pos s.size with e | e
  · exfalso; apply h
    rw [Lib.toList_data]; rw [← bs_length, bs] at e; exact List.length_eq_zero_iff.1 e
  · exact e
theorem name_w (s : ByteArray) (w : World) (hT : TabW w) : Calls Tryz.prog 77 #[.string s] w fun e w' => e = .returned (.bool (nameOk s)) ∧ Below w.heap.size w w' := by
  refine (callsIn_wide (n := 5)).1 ?_
  refine callsIn_of_wp_marks Tryz.func77 rfl trivial ?_ rfl
  simp only [Tryz.ntmps77, List.size_toArray, List.length_cons, List.length_nil, Nat.reduceAdd, Nat.reduceSub, Array.replicate_succ, Array.replicate_zero, List.push_toArray, List.append_toArray, List.nil_append, List.cons_append]
  gi_wp2_with (refine ⟨trivial, ?_⟩; gi_at_call 93; refine (callsIn_wide.2 (splitSeq_w _ _ _)).mono ?_; rintro e w' ⟨rfl, rfl⟩)
  · rename_i hE
    have hc := cellAt1 (World.alloc_heap_new w (.cells #[.bool false] 4))
    refine ⟨.bool false, ?_, by rw [empty_ok hE], (Below.refl _ w).alloc (Nat.le_refl _) _⟩
    simp [results, Tryz.f77, go_sem, hc.1]
  · rename_i hE
    have hc := cellAt1 (World.alloc_heap_new w (.cells #[.bool false] 4))
    refine ⟨.bool false, ?_, by rw [long_ok hE], (Below.refl _ w).alloc (Nat.le_refl _) _⟩
    simp [results, Tryz.f77, go_sem, hc.1]
  · rename_i hne hE _ _
    obtain ⟨g1, g2, g3, g4, g5, g6⟩ := alloc4 w (.cells #[.bool false] 4) (.cells #[.string s] 9) (.cells #[.string ⟨#[45]⟩] 9) (.cells #[.int .i64 0] 3)
    generalize ((((w.alloc (.cells #[.bool false] 4)).alloc (.cells #[.string s] 9)).alloc (.cells #[.string ⟨#[45]⟩] 9)).alloc (.cells #[.int .i64 0] 3)) = W4 at *
    have c0 := cellAt1 g1
    have c1 := cellAt1 g2
    have c2 := cellAt1 g3
    have c3 := cellAt1 g4
    have hs100 : s.size ≤ 100 := by omega
    have hs1 := ne_size hne
    clear hne hE g1 g2 g3 g4
    refine range_own (enc := fun x : ByteArray => #[.string x]) (Bs := w.heap.size + 1) (n₀ := w.heap.size + 4) (N := (strs s.data.toList).length) (xs := strs s.data.toList) (Px := fun x => x.size ≤ s.size) (by decide) rfl (enters_of Tryz.func116 (by kernel_rfl) rfl) (fun _ => rfl) (by omega) (by omega)
      (fun l J Jx W hW hJs hY h0 => split1_in (5 - 1) (by decide) l (w.heap.size + 1) (w.heap.size + 4) _ s J Jx (Nat.le_refl _) (fun pre V v => hJs pre V _) hY W ((hW.cell (p := ⟨w.heap.size + 1, 0, none⟩) (by show (_ : Nat) < W4.heap.size; simp only; omega)).trans c1.1) ((hW.frozen (p := ⟨w.heap.size + 1, 0, none⟩) (by show (_ : Nat) < W4.heap.size; simp only; omega)).trans c1.2) ((hW.cell (p := ⟨w.heap.size + 1 + 1, 0, none⟩) (by show (_ : Nat) < W4.heap.size; simp only; omega)).trans c2.1) ((hW.cell (p := ⟨w.heap.size + 1 + 2, 0, none⟩) (by show (_ : Nat) < W4.heap.size; simp only; omega)).trans c3.1) (by omega) h0 (by omega))
      (fun pre V => (V.cell? ⟨w.heap.size, 0, none⟩ = some (.bool false) ∧ V.frozen? ⟨w.heap.size, 0, none⟩ = false ∧ ∀ p ∈ pre, partOk (bs p) = true) ∧ Below w.heap.size w V)
      (fun pre V => (V.cell? ⟨w.heap.size, 0, none⟩ = some (.bool false) ∧ ∃ p ∈ pre, partOk (bs p) = false) ∧ Below w.heap.size w V)
      (OwnFrom.and (Own.from (fun s A B row hs hg hr => ⟨cell_kept hs.1 hg hr, (frozen_kept hs.1 hg hr).trans hs.2.1, hs.2.2⟩) _) (ownFrom_below (Nat.le_refl _) (by omega)))
      (OwnFrom.and (Own.from (fun s A B row hs hg hr => ⟨cell_kept hs.1 hg hr, hs.2⟩) _) (ownFrom_below (Nat.le_refl _) (by omega)))
      (fun pre V v h => ⟨⟨(World.cell?_setCell_other V ⟨w.heap.size + 1, 0, none⟩ ⟨w.heap.size, 0, none⟩ _ (by simp)).trans h.1.1, by rw [World.frozen?_setCell]; exact h.1.2.1, h.1.2.2⟩, h.2.setCell (p := ⟨w.heap.size + 1, 0, none⟩) (Nat.le_succ _) _⟩)
      ⟨⟨c0.1, c0.2, fun p hp => by simp at hp⟩, g6⟩
      (fun x => { tmps := #[.string s, undef, .pointer (some ⟨w.heap.size, 0, none⟩), .string x, .string s, .bool false, .bool false, .string s, .int .i64 s.size, .bool (decide (100 < (s.size : Int))), .bool (decide (100 < (s.size : Int))), .string s, .func (.func 116) #[] #[.pointer (some ⟨w.heap.size + 1 + 1, 0, none⟩), .pointer (some ⟨w.heap.size + 1, 0, none⟩), .pointer (some ⟨w.heap.size + 1 + 2, 0, none⟩)], .string x, undef, undef, undef], defers := [] }) ?assign ?body ?done ?stop
    case assign =>
      intro l x V K hK
      gi_wp2
      exact hK
    case body =>
      rintro l pre x V ⟨⟨hc, hf, hp⟩, hB⟩ hx hVs
      have hVl : w.heap.size < V.heap.size := by omega
      gi_wp2_with (refine ⟨trivial, ?_⟩; gi_at_call 94; refine (CallsIn.inRound l (callsIn_wide.2 (part_w x (by omega) V (hT.below hB)))).mono ?_; rintro e W1 ⟨rfl, hb1⟩; have hc1 := (hb1.cell (p := ⟨w.heap.size, 0, none⟩) hVl).trans hc; have hf1 := (hb1.frozen (p := ⟨w.heap.size, 0, none⟩) hVl).trans hf)
      · rename_i hno
        exact ⟨(Below.keeps hb1).trans (KeepsOthers.setCell _ _ _), (by first | exact .inr (by simpa using hno) | exact ⟨World.cell?_setCell_same' _ _ _ (by rw [hc1]; rfl), .inr (by simpa using hno)⟩), (hB.trans (hb1.mono hB.size)).setCell (p := ⟨w.heap.size, 0, none⟩) (Nat.le_refl _) _⟩
      · rename_i hyes
        exact ⟨Below.keeps hb1, hb1.mono (by omega), (by first | exact fun p h => h.elim (hp p) (fun e => by rw [e]; simpa using hyes) | exact ⟨hc1, hf1, fun p h => h.elim (hp p) (fun e => by rw [e]; simpa using hyes)⟩), hB.trans (hb1.mono hB.size)⟩
    case done =>
      rintro V ⟨⟨hc, hf, hp⟩, hB⟩ hK
      gi_wp2
      have hK' := (KeepsOthers.setCell V ⟨w.heap.size, 0, none⟩ (.bool true)).same _ _ hK rfl
      refine ⟨by simp, .inl ⟨_, _, rfl, run_takeDeferred hK', ?_⟩⟩
      have hc5 := cell_kept (World.cell?_setCell_same' V ⟨w.heap.size, 0, none⟩ (.bool true) (by rw [hc]; rfl)) (grownBy_putObj' _ W4.heap.size (.deferred none)) (fun r e => by cases e; exact ⟨_, hK', rfl⟩)
      have hbd := (Below.refl w.heap.size V).setCell (p := ⟨w.heap.size, 0, none⟩) (Nat.le_refl _) (.bool true)
      refine ⟨.bool true, ?_, ?_, (hB.trans hbd).grown (grownBy_putObj' _ W4.heap.size (.deferred none)) (hB.trans hbd).size (fun k e => by cases e; omega)⟩
      · simp [results, Tryz.f77, go_sem, hc5]
      · rw [nameOk_split, show decide (1 ≤ s.size) = true by simpa using hs1, show decide (s.size ≤ 100) = true by simpa using hs100, List.all_eq_true.2 hp]; rfl
    case stop =>
      rintro pre V hpre ⟨⟨hc, p, hp1, hp2⟩, hB⟩ hK
      gi_wp2
      refine ⟨by simp, .inl ⟨_, _, rfl, run_takeDeferred hK, ?_⟩⟩
      have hc5 := cell_kept hc (grownBy_putObj' _ W4.heap.size (.deferred none)) (fun r e => by cases e; exact ⟨_, hK, rfl⟩)
      refine ⟨.bool false, ?_, ?_, hB.grown (grownBy_putObj' _ W4.heap.size (.deferred none)) hB.size (fun k e => by cases e; omega)⟩
      · simp [results, Tryz.f77, go_sem, hc5]
      · have : ((strs s.data.toList).all fun p => partOk (bs p)) = false := List.all_eq_false.2 ⟨p, hpre.subset hp1, by simp [hp2]⟩
        rw [nameOk_split, this]; simp
theorem lexName_p : LexName := fun s _ => bool_pure (name_w s)
end Go.Proofs.YtmhbibfkhbaclaaGreatDoor
