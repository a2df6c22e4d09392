/- The engine runs closed code: the statement that ranges over a function; a function's end. -/
import Derived.Test.YtdiimgkopknbcaaGreatDoorK17
import Derived.RangeFuncLeaves
import Derived.Lib.Bytealg
import Derived.Lib.MakeNoZero
import Derived.Test.YtdiimgkopknbcaaGreatDoorK15
namespace Go.Proofs.YtdiimgkopknbcaaGreatDoor.E
open Go Go.RowKit
set_option linter.unusedVariables false
set_option linter.unusedSimpArgs false
variable {P : Program}
noncomputable section
theorem Sim.some_of {Y : Fr} {w0 : World} {φ0 : Phi} {F0 : FMem} {s : St} {F : FMem} {φ : Phi} {a : Act} {w : World} (hs : Sim Y w0 φ0 F0 s F φ a w) {x : Addr} (hx : F x ≠ F0 x) : ∃ u, F x = some u := by
  cases h : F x with
  | some u => exact ⟨u, rfl⟩
  | none =>
    cases h0 : F0 x with
    | none => exact absurd (h.trans h0.symm) hx
    | some u => have := hs.fle x u h0; rw [h] at this; cases this
theorem TriM.rangeFunc {C : Ctx} {f : Operand} {ps : Array Tmp} {asg body : Code} {s : St} {r : RS} {g : FuncId} {fs caps : List PV} {p : PV} {heap' : Tr RB} {n' : Nat} {log : List Nat} (K : Knows r s) (hgF : FnIs P g) (hf : s.ev f = .fn g fs caps)
    (hI : CallSC (HCtx ⟨r.n, ps, asg, body, r.tm, s.N⟩) P g (fs ++ [.yl r.n] ++ caps) r.heap (r.n + 1) p heap' n') : TriM C P none (.rangeFunc f ps asg body) (Ends .normal ⟨r.tm, heap', n', log⟩) s := by
  intro m B0 w0 φ0 F0 F φ a w ms hC hs
  have hsim := hs.sim
  have hn := K.n
  refine wpIn_rangeFunc (F := RF none) (fun fn _ => ?_)
  obtain ⟨ws, vs, hfv, g1, g2, g3, g4⟩ : ∃ ws vs : Array Value, a.eval f = .func (.func g) ws vs ∧ fs.length = ws.size ∧ caps.length = vs.size ∧ (∀ (i : Nat) (p : PV) (u : Value), fs[i]? = some p → ws[i]? = some u → VR F φ p u) ∧ (∀ (i : Nat) (p : PV) (u : Value), caps[i]? = some p → vs[i]? = some u → VR F φ p u) := by
    have hv := hsim.ev f
    rw [hf] at hv
    generalize a.eval f = u at hv
    cases hv with
    | @fn _ _ _ ws vs hm hf hn h => exact ⟨ws, vs, rfl, hm, hn, hf, h⟩
  let D := w.heap.size
  let lp := w.heap.size + 1
  let rc : Loop := { state := .ready, pending := none, fn := fn, tmps := a.tmps, params := ps, assign := asg, body := body, defers := w.heap.size }
  let W1 := (w.alloc (.deferred (some []))).alloc (.loop rc)
  let a' : Act := { a with defers := [{ target := .collected w.heap.size, args := #[] }] ++ a.defers }
  have hW1 : W1.heap.size = w.heap.size + 2 := by simp [W1]
  have hlast : W1.heap[lp]? = some (.loop rc) := by
    have := World.alloc_heap_new (w.alloc (.deferred (some []))) (.loop rc)
    rwa [World.size_alloc] at this
  have hD : W1.heap[D]? = some (.deferred (some [])) := (Below.heap_alloc _ _ _ (by simp [D])).trans (World.alloc_heap_new w _)
  have hold : ∀ k, k < w.heap.size → W1.heap[k]? = w.heap[k]? := fun k hk => (Below.heap_alloc _ _ _ (by simp; omega)).trans (Below.heap_alloc _ _ _ hk)
  let Y1 : Fr := ⟨fun k => (B0 k ∨ k ∈ ms) ∨ k = D ∨ k = lp, (D :: ms).map mark⟩
  have hb0 : ∀ k, (B0 k ∨ k ∈ ms) → k < w.heap.size := fun k hk => hsim.base_le k hk
  have hφn : φ s.n = none := hsim.fresh _ (Nat.le_refl _)
  have hle : φ.le (φ.new s.n (lp, 0)) := Phi.le_new hφn
  have hcell : ∀ {x : Addr} {u : Value}, w.cell? x = some u → W1.cell? x = some u := by
    intro x u hx
    have hlt : x.block < w.heap.size := by
      unfold World.cell? at hx
      cases hb : w.heap[x.block]? with
      | none => rw [hb] at hx; cases hx
      | some o => exact (Array.getElem?_eq_some_iff.1 hb).1
    unfold World.cell? at hx ⊢
    rw [hold _ hlt]; exact hx
  have hnew : ∀ b, b ≠ s.n → (φ.new s.n (lp, 0)) b = φ b := fun b hb => if_neg hb
  have hlive : ∀ b k, look b s.heap = some k → b ≠ s.n := fun b k hk e => by have := (hsim.ltH b k hk).1; omega
  have hsi : Sim Y1 W1 φ0 F0 ⟨s.tm, s.N, s.heap, s.lo, s.n + 1⟩ F (φ.new s.n (lp, 0)) a' W1 := by
    refine ⟨Bel.refl _ _, fun k hk => ?_, hsim.fok.grow (FMem.le_refl _) (fun x u e => ?_) (fun g j u m _ e h2 => szW_block (hold _ (cell_lt e)) h2), hsim.fle, fun x hx hy => ?_, fun b hb => ?_, Nat.le_succ_of_le hsim.lo, fun b hb => ?_, hsim.size, ?_, fun i p hp => (hsim.tm i p hp).mono (FMem.le_refl F) hle, fun b k hk => ?_, fun b b' k k' B sz sz' h1 h2 h3 h4 => ?_⟩
    · rw [hW1]
      rcases hk with hk | rfl | rfl
      · have := hb0 k hk; omega
      · simp [D]
      · simp [lp]
    · obtain ⟨q1, q2⟩ := hsim.fok x u e
      exact ⟨hcell q1, q2⟩
    · obtain ⟨u, hu⟩ := hsim.some_of hx
      have hlt : x.block < w.heap.size := cell_lt (hsim.fok x u hu).1
      rcases hy with hy | hy | hy
      · exact hsim.fnew x hx hy
      · simp only [D] at hy; omega
      · simp only [lp] at hy; omega
    · have := hsim.lo
      rw [hnew b (by have : b < s.lo := hb; omega)]; exact hsim.phi0 b hb
    · have hb : s.n + 1 ≤ b := hb
      rw [hnew b (by omega)]; exact hsim.fresh b (by omega)
    · show [_] ++ a.defers = _
      rw [hsim.defers]; rfl
    · obtain ⟨B, cs, hl⟩ := hsim.heap b k hk
      refine ⟨B, cs, hl.to (hold B hl.lt) (hle _ _ hl.at_) (fun h => ?_) (FMem.le_refl _) hle (hl.reads.mono2 (FMem.le_refl _) hle (fun x hx => absurd rfl hx))⟩
      have := hl.lt
      rcases h with h | h | h
      · exact hl.old h
      · simp only [D] at h; omega
      · simp only [lp] at h; omega
    · rw [hnew b (hlive b k h1)] at h3
      rw [hnew b' (hlive b' k' h2)] at h4
      exact hsim.inj b b' k k' B sz sz' h1 h2 h3 h4
  have hctx : HCtx ⟨r.n, ps, asg, body, r.tm, s.N⟩ Y1.b W1 (φ.new s.n (lp, 0)) F (s.n + 1) := by
    refine ⟨lp, 0, fn, a.tmps, w.heap.size, .inr (.inr rfl), hlast, ?_, by show r.n < s.n + 1; omega, fun c hc => ?_, hsim.size, fun i p hp => ?_⟩
    · show (φ.new s.n (lp, 0)) r.n = some (lp, 0)
      rw [← hn]; exact if_pos rfl
    · rw [hnew c (by omega)]; exact hsim.fresh c (by omega)
    · exact (hsim.tm i p (K.tm i p hp)).mono (FMem.le_refl F) hle
  refine ⟨lp, [{ target := .collected w.heap.size, args := #[] }], W1, { target := .fn (.func g) vs, args := ws ++ #[.func (.yield lp) #[] #[]] }, W1, g, ws ++ #[.func (.yield lp) #[] #[]] ++ vs, W1, run_enterLoop_outer _ _ _ _ _, ?_, fun _ _ => trivial, ?_, fun e => (by cases e), ?_⟩
  · simp only [resolve, hfv, Deferred.ofValue, Sem.run_pure, List.map_toArray, List.map_cons, List.map_nil]
    rfl
  · simp only [invoke, callFunc_run hgF]
  refine callsIn_RF (ro := none) ?_
  have hall : ∀ (i : Nat) (p : PV) (v : Value), (fs ++ [PV.yl r.n] ++ caps)[i]? = some p → (ws ++ #[.func (.yield lp) #[] #[]] ++ vs)[i]? = some v → VR F (φ.new s.n (lp, 0)) p v := by
    intro i p v h1 h2
    rw [List.getElem?_append] at h1
    rw [Array.getElem?_append] at h2
    split at h1
    · rename_i hi
      rw [List.length_append] at hi
      simp only [List.length_cons, List.length_nil] at hi
      rw [if_pos (by rw [Array.size_append]; simp only [List.size_toArray, List.length_cons, List.length_nil]; omega)] at h2
      rw [List.getElem?_append] at h1
      rw [Array.getElem?_append] at h2
      split at h1
      · rename_i hj
        rw [if_pos (by omega)] at h2
        exact (g3 i p v h1 h2).mono (FMem.le_refl F) hle
      · rename_i hj
        rw [if_neg (by omega)] at h2
        have e : i - fs.length = 0 := by omega
        rw [e] at h1
        rw [← g1, e] at h2
        simp at h1 h2
        subst h1; subst h2
        exact .yl (sz := 0) (by rw [← hn]; exact if_pos rfl)
    · rename_i hi
      rw [List.length_append] at hi h1
      simp only [List.length_cons, List.length_nil] at hi h1
      rw [if_neg (by rw [Array.size_append]; simp only [List.size_toArray, List.length_cons, List.length_nil]; omega), Array.size_append] at h2
      simp only [List.size_toArray, List.length_cons, List.length_nil] at h2
      rw [← g1] at h2
      exact (g4 _ p v h1 h2).mono (FMem.le_refl F) hle
  refine (hI ⟨s.tm, s.N, s.heap, s.lo, s.n + 1⟩ K.heap (by show s.n + 1 = r.n + 1; omega) Y1 W1 φ0 F0 F _ a' W1 hsi hctx _ (by simp; omega) hall).mono ?_
  rintro e w' ⟨rv, s', F', φ', rfl, q1, q2, q3, q4, q5, hs', hv⟩
  have hl' : w'.heap[lp]? = some (.loop rc) := (hs'.below.block lp (.inr (.inr rfl))).trans hlast
  have hne : ∀ k, (B0 k ∨ k ∈ ms) → k ≠ lp := fun k hk e => by have := hb0 k hk; simp only [lp] at e; omega
  refine ⟨none, _, run_endLoop hl' (by simp [rc]), ?_⟩
  refine ⟨.normal, s', F', φ', D :: ms, rfl, ⟨rfl, ⟨fun i p hp => by rw [q1]; exact K.tm i p hp, q5, q4⟩⟩, q3, q2, ?_⟩
  refine ⟨hs'.turn (.inr (.inr rfl)) (noCell_loop hl') _ (fun k hk => ?_) rfl, ?_, hs.base, fun D' hD' => ?_, fun D' hD' hb => ?_, ?_⟩
  · rcases hk with hk | hk
    · exact .inl (.inl hk)
    · rcases List.mem_cons.1 hk with rfl | hk
      · exact .inr (.inl rfl)
      · exact .inl (.inr hk)
  · refine hs.below.trans ⟨hs'.below.os, hs'.below.tape, hs'.below.output, ?_, fun k hk => ?_⟩
    · rw [World.putObj_size]; have := hs'.below.size; rw [hW1] at this; omega
    · rw [World.putObj_heap_other (hne k (.inl hk)), hs'.below.block k (.inl (.inl hk)), hold k (hb0 k (.inl hk))]
  · rcases List.mem_cons.1 hD' with rfl | hD'
    · rw [World.putObj_heap_other (by simp [D, lp]), hs'.below.block D (.inr (.inl rfl))]; exact hD
    · rw [World.putObj_heap_other (hne D' (.inr hD')), hs'.below.block D' (.inl (.inr hD')), hold D' (hb0 D' (.inr hD'))]; exact hs.marks D' hD'
  · rcases List.mem_cons.1 hD' with rfl | hD'
    · have := hb0 D (.inl hb); simp [D] at this
    · exact hs.apart D' hD' hb
  · refine List.nodup_cons.2 ⟨fun h => ?_, hs.nodup⟩
    have := hb0 D (.inr h); simp [D] at this
/-- The marks are taken, one by one. -/
theorem leaves_marks {B0 : Nat → Prop} {w0 : World} {φ0 : Phi} {F0 : FMem} {s : St} {F : FMem} {φ : Phi} {a : Act} {ds : List Deferred} {fn : Func} {n : Nat} {R : Ending → World → Prop} (hbase : ∀ k, B0 k → k < w0.heap.size)
    (hR : ∀ w, Bel B0 w0 w → Sim ⟨B0, ds⟩ w φ0 F0 s F φ a w → ∃ v, (results fn a.tmps).run P w = .ok v w ∧ R (.returned v) w) :
    ∀ (ms : List Nat) (w : World), Sim ⟨fun k => B0 k ∨ k ∈ ms, ds⟩ w φ0 F0 s F φ a w → Bel B0 w0 w → (∀ D ∈ ms, w.heap[D]? = some (.deferred (some []))) → (∀ D ∈ ms, ¬ B0 D) → ms.Nodup →
      LeavesInM Fence.wide n P fn a.tmps R (ms.map mark) .returning w
  | [], w, hs, hb, _, _, _ => hR w hb ⟨Bel.refl _ _, fun k hk => hs.base k (.inl hk), hs.fok, hs.fle, fun x hx h => hs.fnew x hx (.inl h), hs.phi0, hs.lo, hs.fresh, hs.size, hs.defers, hs.tm, fun b k hk => let ⟨B, cs, hl⟩ := hs.heap b k hk; ⟨B, cs, hl.to rfl hl.at_ (fun h => hl.old (.inl h)) (FMem.le_refl _) (Phi.le_refl _) hl.reads⟩, hs.inj⟩
  | D :: ms, w, hs, hb, hm, ha, hn => by
    have hD := hm D List.mem_cons_self
    obtain ⟨n1, n2⟩ := List.nodup_cons.1 hn
    refine ⟨by simp, .inl ⟨D, _, rfl, run_takeDeferred hD, ?_⟩⟩
    have hne : ∀ k, B0 k → k ≠ D := fun k hk e => ha D List.mem_cons_self (e ▸ hk)
    refine leaves_marks hbase hR ms _ (hs.turn (.inr List.mem_cons_self) (noCell_deferred hD) _ (fun k hk => ?_) rfl) ⟨hb.os, hb.tape, hb.output, by rw [World.putObj_size]; exact hb.size, fun k hk => by rw [World.putObj_heap_other (hne k hk)]; exact hb.block k hk⟩ (fun D' hD' => ?_) (fun D' hD' => ha D' (List.mem_cons_of_mem _ hD')) n2
    · rcases hk with hk | hk
      · exact .inl hk
      · exact .inr (List.mem_cons_of_mem _ hk)
    · rw [World.putObj_heap_other (fun (e : D' = D) => n1 (by rw [← e]; exact hD'))]
      exact hm D' (List.mem_cons_of_mem _ hD')
theorem CallSC.of {C : Ctx} {E : Env P} {f : FuncId} {fn : Func} {c : Code} {ps qs : List PV} {heap : Tr RB} {n : Nat} {r' : RS} (hf : P.funcs[f]? = some fn) (hb : fn.body = some c) (hN : Nat.ble ps.length fn.ntmps = true)
    (h : ∀ s, Knows (initR ps heap n) s → s.N = fn.ntmps → TriM C P none c (fun x s' => (x = .normal ∨ x = .ret) ∧ Knows r' s') s) (hr : ressV E r'.tm r'.heap.get fn.results.toList = some qs) : CallSC C P f ps heap n (packP qs) r'.heap r'.n := by
  intro s hk hn B0 w0 φ0 F0 F φ a w hs hC vs hlen hvs
  have hN := Nat.le_of_ble_eq_true hN
  refine (callsIn_wide (n := 0)).1 (callsIn_of_wp_marks hf hb trivial ?_)
  have hs1 : Sim ⟨fun k => B0.b k ∨ k ∈ ([] : List Nat), []⟩ w φ F ⟨initP 0 ps, fn.ntmps, s.heap, s.n, s.n⟩ F φ { tmps := vs ++ Array.replicate (fn.ntmps - vs.size) undef, defers := [] } w := by
    refine ⟨Bel.refl _ _, fun k hk => hs.base_le k (by simpa using hk), hs.fok, FMem.le_refl F, fun x hx => absurd rfl hx, fun _ _ => rfl, Nat.le_refl _, hs.fresh, by simp; omega, rfl, fun i p hp => ?_, fun b k hk => ?_, hs.inj⟩
    · rw [look_initP, if_pos (Nat.zero_le _), Nat.sub_zero] at hp
      have hi := (List.getElem?_eq_some_iff.1 hp).1
      have hi2 : i < vs.size := by omega
      rw [Array.getD_eq_getD_getElem?, Array.getElem?_append_left hi2, Array.getElem?_eq_getElem hi2]
      exact hvs i p _ hp (Array.getElem?_eq_getElem hi2)
    · obtain ⟨B, cs, hl⟩ := hs.heap b k hk
      exact ⟨B, cs, hl.to rfl hl.at_ (fun h => hl.old (by simpa using h)) (FMem.le_refl _) (Phi.le_refl _) hl.reads⟩
  have hsm : SM B0.b w φ F [] ⟨initP 0 ps, fn.ntmps, s.heap, s.n, s.n⟩ F φ { tmps := vs ++ Array.replicate (fn.ntmps - vs.size) undef, defers := [] } w := ⟨hs1, Bel.refl _ _, fun k hk => hs.base_le k hk, fun D hD => (by cases hD), fun D hD => (by cases hD), List.nodup_nil⟩
  refine wpIn_mono (h _ (initR_knows hk hn) rfl 0 B0.b w φ F F φ _ w [] hC hsm) ?_
  rintro e a' w1 ⟨x, s', F', φ', ms, rfl, ⟨hx, hq⟩, h1, h2, hs'⟩
  have hle : φ.le φ' := fun b y hb' => by
    rcases Nat.lt_or_ge b s.n with q | q
    · rw [hs'.sim.phi0 b (by rw [h1]; exact q)]; exact hb'
    · rw [hs.fresh b q] at hb'; cases hb'
  have hlo : s.n ≤ s'.n := by have := hs'.sim.lo; rw [h1] at this; exact this
  have hpost : LeavesInM Fence.wide 0 P fn a'.tmps (fun e w' => ∃ rv s' F' φ', e = .returned rv ∧ s'.tm = s.tm ∧ s'.N = s.N ∧ s'.lo = s.lo ∧ s'.n = r'.n ∧ KH r'.heap s' ∧ Sim B0 w0 φ0 F0 s' F' φ' a w' ∧ VR F' φ' (packP qs) rv) a'.defers .returning w1 := by
    rw [hs'.sim.defers]
    refine leaves_marks (ds := ms.map mark) hs'.base (fun w' hbel hsw => ?_) ms w1 hs'.sim hs'.below hs'.marks hs'.apart hs'.nodup
    obtain ⟨v, hv1, hv2⟩ := results_ok (P := P) hq hsw hr
    refine ⟨v, hv1, v, ⟨s.tm, s.N, s'.heap, s.lo, s'.n⟩, F', φ', rfl, rfl, rfl, rfl, hq.n, hq.heap, ?_, hv2⟩
    refine ⟨hs.below.trans hbel, hs.base, hsw.fok, FMem.le_trans hs.fle hsw.fle, fun x hx => ?_, fun b hb' => ?_, Nat.le_trans hs.lo hlo, hsw.fresh, hs.size, hs.defers, fun i p hp => (hs.tm i p hp).mono hsw.fle hle, fun b k hb => ?_, hsw.inj⟩
    · by_cases e1 : F' x = F x
      · exact hs.fnew x (fun e2 => hx (e1.trans e2))
      · exact hsw.fnew x e1
    · have hb2 : b < s.lo := hb'
      have := hs.lo
      rw [hsw.phi0 b (by rw [h1]; exact (show b < s.n by omega))]; exact hs.phi0 b hb2
    · obtain ⟨B, cs, hl⟩ := hsw.heap b k hb
      exact ⟨B, cs, hl.to rfl hl.at_ (fun h => hl.old h) (FMem.le_refl _) (Phi.le_refl _) hl.reads⟩
  rcases hx with rfl | rfl
  · exact hpost
  · exact hpost
end
end Go.Proofs.YtdiimgkopknbcaaGreatDoor.E

/- The engine runs closed code: code, functions, ranges over functions, by fuel. -/
namespace Go.Proofs.YtdiimgkopknbcaaGreatDoor.E
open Go Go.RowKit
set_option linter.unusedVariables false
set_option linter.unusedSimpArgs false
variable {P : Program}
noncomputable section
abbrev CodeF := Nat → Code → RS → Option (Ex × RS)
def seqR (self : RS → Option (Ex × RS)) : Option (Ex × RS) → Option (Ex × RS)
  | some (.normal, r) => self r
  | x => x
def blkR (id : Nat) : Option (Ex × RS) → Option (Ex × RS)
  | some (.exit j, r) => bif Nat.beq j id then some (.normal, r) else some (.exit j, r)
  | x => x
def normR : Option RS → Option (Ex × RS)
  | some r => some (.normal, r)
  | none => none
def ctxOf : Option YH → Ctx
  | none => noCtx
  | some y => HCtx y
/-- What a run says. -/
def CodeG (C : Ctx) (P : Program) (ro : Option Nat) (run : CodeF) : Prop := ∀ N c r x r', run N c r = some (x, r') → (∀ s, Knows r s → s.N = N → TriM C P ro c (Ends x r') s) ∧ Logs r r'
theorem Logs.uniq {r r' : RS} (h : Logs r r') (hr : r.log = []) : LogOK r.n r.heap r'.heap (uniqB r.n [] r'.log) ∧ r.n ≤ r'.n := by
  obtain ⟨h0, l, g1, g2⟩ := h
  refine ⟨fun b hb hnb => g2 b hb fun hl => hnb (uniqB_mem hb (.inl ?_)), h0⟩
  rw [g1]
  exact List.mem_append.2 (.inl hl)
/-! ### yield -/
abbrev YldF := Nat → List PV → Tr RB → Nat → Option CR
def yieldR (self : CodeF) (h : Option YH) : YldF := fun b args heap n => match h with
  | some y => bif Nat.beq y.b b && Nat.beq args.length y.ps.size && (y.ps.toList.all fun q => Nat.blt q y.N) then
      (match self y.N y.asg ⟨setAll y.ps.toList args y.tm, heap, n, []⟩ with
      | some (.normal, r1) => match self y.N y.body r1 with
        | some (.normal, r2) => some ⟨.t (.v (.bool true)), r2.heap, r2.n, uniqB n [] r2.log⟩
        | _ => none
      | _ => none) else none
  | none => none
def YldG (P : Program) (h : Option YH) (yld : YldF) : Prop := ∀ b args heap n x, yld b args heap n = some x → ∃ y r1 r2, h = some y ∧ y.b = b ∧ args.length = y.ps.size ∧ (y.ps.toList.all fun q => Nat.blt q y.N) = true ∧ x.p = .t (.v (.bool true)) ∧ x.heap = r2.heap ∧ x.n = r2.n ∧
  (∀ l s, Knows ⟨setAll y.ps.toList args y.tm, heap, n, []⟩ s → s.N = y.N → TriM noCtx P (some l) y.asg (Ends .normal r1) s) ∧ (∀ l s, Knows r1 s → s.N = y.N → TriM noCtx P (some l) y.body (Ends .normal r2) s) ∧ LogOK n heap x.heap x.log ∧ n ≤ x.n
theorem yieldR_ok {self : CodeF} (hs : ∀ l, CodeG noCtx P (some l) self) (h : Option YH) : YldG P h (yieldR self h) := by
  intro b args heap n x hx
  unfold yieldR at hx
  split at hx
  · rename_i y
    obtain ⟨hc, hx⟩ := bif_some hx
    simp only [Bool.and_eq_true] at hc
    split at hx
    · rename_i r1 h1
      split at hx
      · rename_i r2 h2
        cases hx
        have hl := Logs.uniq ((hs 0 _ _ _ _ _ h1).2.trans (hs 0 _ _ _ _ _ h2).2) rfl
        exact ⟨y, r1, r2, rfl, Nat.eq_of_beq_eq_true hc.1.1, Nat.eq_of_beq_eq_true hc.1.2, hc.2, rfl, rfl, rfl, fun l => (hs l _ _ _ _ _ h1).1, fun l => (hs l _ _ _ _ _ h2).1, hl.1, hl.2⟩
      · cases hx
    · cases hx
  · cases hx
section
variable {E : Env P} {call : CallF} {ops : Array Oper}
def nextY (E : Env P) (call : CallF) (yld : YldF) (ops : Array Oper) (r : RS) (o : Oper) : Option NX := match nextR E call ops r.tm r.heap r.n o with
  | some x => some x
  | none => match o.op with
    | .call ⟨.value x, xs, _⟩ => match guardR ops r.tm o with
      | some true => match evR r.tm x, allK r.tm xs.toList with
        | .yl b, some args => (yld b args r.heap r.n).map .call
        | _, _ => none
      | _ => none
    | _ => none
def isDefer : Op → Bool
  | .defer _ => true
  | _ => false
def regY (E : Env P) (call : CallF) (yld : YldF) (ops : Array Oper) (N : Nat) : List Oper → RS → Option RS
  | [], r => some r
  | o :: l, r => bif dstOK o N && !isDefer o.op then (match nextY E call yld ops r o with
      | some x => forceN x.n fun m => bif Nat.ble r.n m then regY E call yld ops N l { r.next o.dst x with n := m } else none
      | none => none) else none
theorem RS.next_n (r : RS) (d : Option Nat) (x : NX) : { r.next d x with n := x.n } = r.next d x := by cases x <;> rfl
theorem nextY_cases {yld : YldF} {r : RS} {o : Oper} {x : NX} (h : nextY E call yld ops r o = some x) : nextR E call ops r.tm r.heap r.n o = some x ∨
    ∃ y xs ts b args c, o.op = .call ⟨.value y, xs, ts⟩ ∧ guardR ops r.tm o = some true ∧ evR r.tm y = .yl b ∧ allK r.tm xs.toList = some args ∧ yld b args r.heap r.n = some c ∧ x = .call c := by
  unfold nextY at h
  split at h
  · rename_i y hy; cases h; exact .inl hy
  · split at h
    · rename_i y xs ts hop
      split at h
      · rename_i hg
        split at h
        · rename_i b args hb ha
          rw [Option.map_eq_some_iff] at h
          obtain ⟨c, hc, rfl⟩ := h
          exact .inr ⟨y, xs, ts, b, args, c, hop, hg, hb, ha, hc, rfl⟩
        · cases h
      · cases h
    · cases h
theorem regY_ok (hc : CallG P call) {yld : YldF} {h : Option YH} (hy : YldG P h yld) {ro : Option Nat} {N : Nat} : ∀ (l : List Oper) {r r' : RS} {s : St}, Knows r s → s.N = N → regY E call yld ops N l r = some r' → TriLM (ctxOf h) P ro ops l (fun s' => Knows r' s') s
  | [], r, r', s, K, hN, hr => by cases hr; exact TriLM.nil K
  | o :: l, r, r', s, K, hN, hr => by
    simp only [regY, forceN_eq, RS.next_n] at hr
    obtain ⟨hd, hr⟩ := bif_some hr
    simp only [Bool.and_eq_true, Bool.not_eq_true'] at hd
    have hnd : ∀ c, o.op ≠ .defer c := fun c e => by rw [e] at hd; cases hd.2
    split at hr
    · rename_i x hx
      obtain ⟨_, hr⟩ := bif_some hr
      have hdst := dstOK_ok hd.1
      rcases nextY_cases hx with hx | ⟨y, xs, ts, b, args, c, hop, hg, hb, ha, hcc, rfl⟩
      · have hstep := nextR_ok hc (K.kn o) (K.gkn ops o) (by rw [hN]; exact hdst) hx [] (NextS s o.dst x) fun s2 h2 => TriL.nil h2
        refine TriLM.step hnd hstep fun s2 h2 _ _ => ?_
        obtain ⟨K2, hN2⟩ := K.next h2
        exact regY_ok hc hy l K2 (hN2.trans hN) hr
      · obtain ⟨yh, r1, r2, rfl, rfl, y1, y2, y3, y4, y5, y6, y7, y8, y9⟩ := hy _ _ _ _ _ hcc
        have ha := allK_ok (s := s) (fun z hz p hp => K.ev hp) ha
        have hev : s.ev y = .yl yh.b := K.ev (by unfold evK; rw [hb])
        refine yield_step (K.gkn ops o) hg hop hev ha K.heap K.n (by rw [hN]; exact hdst) y1 y2 y6 y7 fun s2 h2 => ?_
        have h2' : NextS s o.dst (.call c) s2 := by
          show Called s o.dst c.p c.heap c.n s2
          rw [y3, y4, y5]; exact h2
        obtain ⟨K2, hN2⟩ := K.next h2'
        exact regY_ok hc hy l K2 (hN2.trans hN) hr
    · cases hr
theorem regY_log (hc : CallG P call) {yld : YldF} {h : Option YH} (hy : YldG P h yld) {N : Nat} : ∀ (l : List Oper) {r r' : RS}, regY E call yld ops N l r = some r' → Logs r r'
  | [], r, r', hr => by cases hr; exact .refl r
  | o :: l, r, r', hr => by
    simp only [regY, forceN_eq, RS.next_n] at hr
    obtain ⟨hd, hr⟩ := bif_some hr
    split at hr
    · rename_i x hx
      obtain ⟨hn, hr⟩ := bif_some hr
      rcases nextY_cases hx with hx | ⟨y, xs, ts, b, args, c, hop, hg, hb, ha, hcc, rfl⟩
      · exact Logs.trans (nextR_log hc hx hn) (regY_log hc hy l hr)
      · obtain ⟨yh, r1, r2, _, _, y1, y2, y3, y4, y5, y6, y7, y8, y9⟩ := hy _ _ _ _ _ hcc
        exact Logs.trans ⟨Nat.le_of_ble_eq_true hn, c.log, rfl, y8⟩ (regY_log hc hy l hr)
    · cases hr
def regG (E : Env P) (call : CallF) (yld : YldF) (ops : Array Oper) (draw : Bool) (N : Nat) (r : RS) : Option RS := match draw with
  | false => regY E call yld ops N ops.toList r
  | true => bif dOK ops (mkAnc ops) [] && noDefer ops then freeR E call ops (mkAnc ops) N ops.toList 0 [] [] r else none
theorem regG_ok (hc : CallG P call) {yld : YldF} {h : Option YH} (hy : YldG P h yld) {ro : Option Nat} {draw : Bool} {N id : Nat} {r r' : RS} {s : St} (K : Knows r s) (hN : s.N = N) (hr : regG E call yld ops draw N r = some r') : TriM (ctxOf h) P ro (.region id ops draw) (Ends .normal r') s := by
  cases draw with
  | false =>
    refine TriM.region ?_
    intro n B0 w0 φ0 F0 F φ a w ms hC hs Q hQ
    exact regY_ok hc hy _ K hN hr n B0 w0 φ0 F0 F φ a w ms hC hs Q fun s' F' φ' a' w' ms' hk => hQ s' F' φ' a' w' ms' ⟨rfl, hk⟩
  | true =>
    obtain ⟨hA, hr⟩ := bif_some hr
    simp only [Bool.and_eq_true] at hA
    subst hN
    intro n B0 w0 φ0 F0 F φ a w ms hC hs
    have hlt := hs.sim.ltH
    have hs2 := hs.sim.forget (l := mkH (fun b => (r.heap.get b).map RB.blk) s.n) fun b k hk => by
      rw [look_mkH] at hk
      split at hk
      · rw [Option.map_eq_some_iff] at hk
        obtain ⟨kb, h1, rfl⟩ := hk
        exact K.heap b kb h1
      · cases hk
    have hX : EX r.heap (mkH (fun b => (r.heap.get b).map RB.blk) s.n) s.n := by
      refine ⟨fun b k hk => ?_, fun b k hk => ?_⟩
      · rw [look_mkH, if_pos (hlt b _ (K.heap b k hk)).1, hk]; rfl
      · rw [look_mkH] at hk
        split at hk
        · rename_i hb
          rw [Option.map_eq_some_iff] at hk
          obtain ⟨kb, h1, rfl⟩ := hk
          exact ⟨hb, kb, h1, rfl⟩
        · cases hk
    have hob := freeR_ok (lo := s.lo) (KK := fun s' => Knows r' s') hc ops.toList (fun x hx => by cases hx) K.tm hX K.n.symm hr fun s' h => h
    have hany := regXs_any (P := P) hA.1 hob hs2 (Q := fun e a' w' => e = .normal ∧ ∃ s' F' φ', Knows r' s' ∧ s'.lo = s.lo ∧ s'.N = s.N ∧ Sim ⟨fun k => B0 k ∨ k ∈ ms, ms.map mark⟩ w φ0 F0 s' F' φ' a' w') fun s' F' φ' a' w' hk e1 e2 hs' => ⟨rfl, s', F', φ', hk, e1, e2, hs'⟩
    exact wpIn_region_any E.mixed (wpAnyIn_of hA.2 (fun e a w h => h.1) (fun a' w' ⟨_, s', F', φ', hk, e1, e2, hs'⟩ => ⟨.normal, s', F', φ', ms, rfl, ⟨rfl, hk⟩, e1, e2, hs.on hs'⟩) _ _ _ _ hany)
theorem regG_log (hc : CallG P call) {yld : YldF} {h : Option YH} (hy : YldG P h yld) {draw : Bool} {N : Nat} {r r' : RS} (hr : regG E call yld ops draw N r = some r') : Logs r r' := by
  cases draw with
  | false => exact regY_log hc hy _ hr
  | true =>
    obtain ⟨hA, hr⟩ := bif_some hr
    exact freeR_log _ hr
end
/-! ### code -/
abbrev ItF := YH → CallF
def ItG (P : Program) (it : ItF) : Prop := ∀ y f ps heap n x, it y f ps heap n = some x → CallSC (HCtx y) P f ps heap n x.p x.heap x.n ∧ FnIs P f ∧ LogOK n heap x.heap x.log ∧ n ≤ x.n
def stepC (E : Env P) (call : CallF) (yld : YldF) (it : ItF) (rd : Bool) (self : CodeF) (N : Nat) (c : Code) (r : RS) : Option (Ex × RS) := match c with
  | .skip => some (.normal, r)
  | .ret => some (.ret, r)
  | .exit id => some (.exit id, r)
  | .seq a b => seqR (self N b) (self N a r)
  | .cond c a b => match evR r.tm c with
    | .t (.v (.bool true)) => self N a r
    | .t (.v (.bool false)) => self N b r
    | _ => none
  | .block id b => blkR id (self N b r)
  | .loop b => seqR (self N (.loop b)) (self N b r)
  | .region _ ops d => normR (regG E call yld ops d N r)
  | .scope b => bif rd then none else self N b r
  | .rangeFunc f ps asg body => bif rd then none else match evR r.tm f with
    | .fn g fs caps => match it ⟨r.n, ps, asg, body, r.tm, N⟩ g (fs ++ [.yl r.n] ++ caps) r.heap (r.n + 1) with
      | some x => some (.normal, ⟨r.tm, x.heap, x.n, x.log ++ r.log⟩)
      | none => none
    | _ => none
  | _ => none
def ended : Ex → Bool
  | .exit _ => false
  | _ => true
def callF (E : Env P) (run : CodeF) : CallF := fun f ps heap n => match E.fnAt f with
  | some x => bif Nat.ble ps.length x.fn.ntmps then (match run x.fn.ntmps x.c (initR ps heap n) with
    | some (e, r) => bif ended e then (match ressV E r.tm r.heap.get x.fn.results.toList with
      | some qs => some ⟨packP qs, r.heap, r.n, uniqB n [] r.log⟩
      | none => none) else none
    | none => none) else none
  | none => none
def runC (E : Env P) : Nat → Option YH → Bool → CodeF
  | 0 => fun _ _ _ _ _ => none
  | f + 1 => fun h rd => stepC E (callF E (runC E f none false)) (yieldR (runC E f none true) h) (fun y => callF E (runC E f (some y) false)) rd (runC E f h rd)
section
variable {E : Env P}
theorem callF_ok {C : Ctx} {run : CodeF} (h : CodeG C P none run) : ∀ f ps heap n x, callF E run f ps heap n = some x → CallSC C P f ps heap n x.p x.heap x.n ∧ FnIs P f ∧ LogOK n heap x.heap x.log ∧ n ≤ x.n := by
  intro f ps heap n x hx
  unfold callF at hx
  split at hx
  · rename_i fe hf
    obtain ⟨f1, f2, f3⟩ := E.fnAt_ok hf
    obtain ⟨hN, hx⟩ := bif_some hx
    split at hx
    · rename_i e r hr
      obtain ⟨he, hx⟩ := bif_some hx
      split at hx
      · rename_i qs hq
        cases hx
        obtain ⟨h1, h2⟩ := h _ _ _ _ _ hr
        have hl := Logs.uniq h2 rfl
        refine ⟨CallSC.of f1 f2 hN (fun s hk hs => (h1 s hk hs).mono fun y s' _ _ hy => ⟨?_, hy.2⟩) hq, f3, hl.1, hl.2⟩
        obtain ⟨rfl, _⟩ := hy
        cases y with
        | normal => exact .inl rfl
        | ret => exact .inr rfl
        | exit id => cases he
      · cases hx
    · cases hx
  · cases hx
theorem stepC_ok {call : CallF} {yld : YldF} {it : ItF} {rd : Bool} {self : CodeF} {h : Option YH} {ro : Option Nat} (hro : rd = false → ro = none) (hc : CallG P call) (hy : YldG P h yld) (hi : ItG P it) (hs : CodeG (ctxOf h) P ro self) {N : Nat} {c : Code} {r r' : RS} {x : Ex} (hx : stepC E call yld it rd self N c r = some (x, r')) :
    ((∀ b, c ≠ .loop b) → ∀ s, Knows r s → s.N = N → TriM (ctxOf h) P ro c (Ends x r') s) ∧ Logs r r' := by
  have sq : ∀ {a : Code} {k : RS → Option (Ex × RS)} {K : Code}, seqR k (self N a r) = some (x, r') → (∀ r1, k r1 = some (x, r') → (∀ s, Knows r1 s → s.N = N → TriM (ctxOf h) P ro K (Ends x r') s) ∧ Logs r1 r') → (∀ s, Knows r s → s.N = N → TriM (ctxOf h) P ro (.seq a K) (Ends x r') s) ∧ Logs r r' := by
    intro a k K hq hk
    unfold seqR at hq
    split at hq
    · rename_i r1 h1
      obtain ⟨a1, a2⟩ := hs _ _ _ _ _ h1
      obtain ⟨b1, b2⟩ := hk _ hq
      refine ⟨fun s K hN => TriM.seq ((a1 s K hN).mono fun y s' _ e ⟨hy, hk'⟩ => ?_), a2.trans b2⟩
      subst hy
      exact b1 s' hk' (e.trans hN)
    · rename_i hne
      obtain ⟨a1, a2⟩ := hs _ _ _ _ _ hq
      refine ⟨fun s K hN => TriM.seq ((a1 s K hN).mono fun y s' _ e ⟨hy, hk'⟩ => ?_), a2⟩
      subst hy
      cases y with
      | normal => exact absurd hq (hne r')
      | ret => exact ⟨rfl, hk'⟩
      | exit id => exact ⟨rfl, hk'⟩
  unfold stepC at hx
  split at hx
  · cases hx; exact ⟨fun _ s K _ => TriM.skip ⟨rfl, K⟩, .refl _⟩
  · cases hx; exact ⟨fun _ s K _ => TriM.ret ⟨rfl, K⟩, .refl _⟩
  · cases hx; exact ⟨fun _ s K _ => TriM.exit ⟨rfl, K⟩, .refl _⟩
  · rename_i a b
    obtain ⟨h1, h2⟩ := sq (K := b) hx fun r1 hr1 => hs _ _ _ _ _ hr1
    exact ⟨fun _ => h1, h2⟩
  · rename_i cc a b
    split at hx
    · rename_i hcc
      obtain ⟨h1, h2⟩ := hs _ _ _ _ _ hx
      refine ⟨fun _ s K hN => TriM.cond (b := true) (K.ev ?_) (fun _ => h1 s K hN) (fun h => by cases h), h2⟩
      unfold evK; rw [hcc]
    · rename_i hcc
      obtain ⟨h1, h2⟩ := hs _ _ _ _ _ hx
      refine ⟨fun _ s K hN => TriM.cond (b := false) (K.ev ?_) (fun h => by cases h) (fun _ => h1 s K hN), h2⟩
      unfold evK; rw [hcc]
    · cases hx
  · rename_i id b
    unfold blkR at hx
    split at hx
    · rename_i j r1 h1
      obtain ⟨a1, a2⟩ := hs _ _ _ _ _ h1
      cases hj : Nat.beq j id with
      | true =>
        rw [hj] at hx; cases hx
        refine ⟨fun _ s K hN => TriM.block ((a1 s K hN).mono fun y s' _ _ ⟨hy, hk⟩ => ?_), a2⟩
        subst hy
        simp only [inBlk, Nat.eq_of_beq_eq_true hj, if_true]
        exact ⟨rfl, hk⟩
      | false =>
        rw [hj] at hx; cases hx
        refine ⟨fun _ s K hN => TriM.block ((a1 s K hN).mono fun y s' _ _ ⟨hy, hk⟩ => ?_), a2⟩
        subst hy
        simp only [inBlk, if_neg (Nat.ne_of_beq_eq_false hj)]
        exact ⟨rfl, hk⟩
    · rename_i hne
      obtain ⟨a1, a2⟩ := hs _ _ _ _ _ hx
      refine ⟨fun _ s K hN => TriM.block ((a1 s K hN).mono fun y s' _ _ ⟨hy, hk⟩ => ?_), a2⟩
      subst hy
      cases y with
      | normal => exact ⟨rfl, hk⟩
      | ret => exact ⟨rfl, hk⟩
      | exit j => exact absurd hx (hne j r')
  · rename_i b
    refine ⟨fun hb => absurd rfl (hb b), ?_⟩
    unfold seqR at hx
    split at hx
    · rename_i r1 h1
      exact (hs _ _ _ _ _ h1).2.trans (hs _ _ _ _ _ hx).2
    · exact (hs _ _ _ _ _ hx).2
  · rename_i id ops d
    unfold normR at hx
    split at hx
    · rename_i r1 h1
      cases hx
      exact ⟨fun _ s K hN => regG_ok hc hy K hN h1, regG_log hc hy h1⟩
    · cases hx
  · cases hrd : rd with
    | true => rw [hrd] at hx; cases hx
    | false =>
      rw [hrd, cond_false] at hx
      obtain rfl := hro hrd
      obtain ⟨h1, h2⟩ := hs _ _ _ _ _ hx
      exact ⟨fun _ s K hN => TriM.scope (h1 s K hN), h2⟩
  · rename_i f ps asg body
    cases hrd : rd with
    | true => rw [hrd] at hx; cases hx
    | false =>
      rw [hrd, cond_false] at hx
      obtain rfl := hro hrd
      split at hx
      · rename_i g fs caps hg
        split at hx
        · rename_i y hy'
          cases hx
          obtain ⟨i1, i2, i3, i4⟩ := hi _ _ _ _ _ _ hy'
          refine ⟨fun _ s K hN => ?_, Nat.le_of_succ_le i4, y.log, rfl, fun b hb hnb => i3 b (Nat.lt_succ_of_lt hb) hnb⟩
          subst hN
          exact TriM.rangeFunc K i2 (K.ev (by unfold evK; rw [hg])) i1
        · cases hx
      · cases hx
  · cases hx
theorem runC_all : ∀ (f : Nat) (h : Option YH) (rd : Bool) (ro : Option Nat), (rd = false → ro = none) → CodeG (ctxOf h) P ro (runC E f h rd) ∧ ∀ N b r x r', runC E f h rd N (.loop b) r = some (x, r') → ∀ s, Knows r s → s.N = N → TriR (ctxOf h) P ro b f (Ends x r') s
  | 0, h, rd, ro, _ => ⟨fun N c r x r' h => (by cases h), fun N b r x r' h => (by cases h)⟩
  | f + 1, h, rd, ro, hro => by
    obtain ⟨ih1, ih2⟩ := runC_all f h rd ro hro
    have hc : CallG P (callF E (runC E f none false)) := callF_ok (C := noCtx) (runC_all f none false none fun _ => rfl).1
    have hy : YldG P h (yieldR (runC E f none true) h) := yieldR_ok (fun l => (runC_all f none true (some l) fun e => by cases e).1) h
    have hi : ItG P (fun y => callF E (runC E f (some y) false)) := fun y => callF_ok (C := HCtx y) (runC_all f (some y) false none fun _ => rfl).1
    have key : ∀ N b r x r', runC E (f + 1) h rd N (.loop b) r = some (x, r') → ∀ s, Knows r s → s.N = N → TriR (ctxOf h) P ro b (f + 1) (Ends x r') s := by
      intro N b r x r' hr s K hN
      have hr : seqR (runC E f h rd N (.loop b)) (runC E f h rd N b r) = some (x, r') := hr
      unfold seqR at hr
      split at hr
      · rename_i r1 h1
        exact TriR.more ((ih1 _ _ _ _ _ h1).1 s K hN) fun s' K' hN' => ih2 _ _ _ _ _ hr s' K' (hN'.trans hN)
      · rename_i hne
        refine TriR.out (fun e => ?_) ((ih1 _ _ _ _ _ hr).1 s K hN)
        subst e
        exact hne r' hr
    refine ⟨fun N c r x r' hr => ?_, key⟩
    obtain ⟨h1, h2⟩ := stepC_ok hro hc hy hi ih1 hr
    refine ⟨fun s K hN => ?_, h2⟩
    by_cases hl : ∃ b, c = .loop b
    · obtain ⟨b, rfl⟩ := hl
      exact (key N b r x r' hr s K hN).loop
    · exact h1 (fun b e => hl ⟨b, e⟩) s K hN
/-- A function, run. -/
def runF (E : Env P) (fuel : Nat) : CallF := callF E (runC E fuel none false)
theorem runF_ok (fuel : Nat) : CallG P (runF E fuel) := callF_ok (C := noCtx) (runC_all fuel none false none fun _ => rfl).1
end
end
end Go.Proofs.YtdiimgkopknbcaaGreatDoor.E

/- The engine runs closed code: what a run says of a function; tables. -/
namespace Go.Proofs.YtdiimgkopknbcaaGreatDoor.E
open Go Go.RowKit
set_option linter.unusedVariables false
set_option linter.unusedSimpArgs false
variable {P : Program}
noncomputable section
def TyE.of {t : TypeId} {d : TypeDesc} {sz bytes : Nat} {z : Value} (h : TyIs P t d sz bytes z) : TyE P := ⟨t, d, sz, bytes, z, h⟩
def PlE.of {t : TypeId} {fs : Array Field} {pl : List (Nat × Nat)} (h : PlIs P t fs pl) {sz bytes : Nat} {z : Value} (u : TyIs P t (.struct fs) sz bytes z) : PlE P := ⟨t, fs, pl, h, u.und, false, fun h => by cases h⟩
def PlE.ofC {t : TypeId} {fs : Array Field} {pl : List (Nat × Nat)} (h : PlIs P t fs pl) {sz bytes : Nat} {z : Value} (u : TyIs P t (.struct fs) sz bytes z) (st : P.stoodInHeld t = false) (eg : P.eqGuardType P.depth t = false) (nu : (fs.toList.all fun f => decide (f.name ≠ "_")) = true) : PlE P :=
  ⟨t, fs, pl, h, u.und, true, fun _ => ⟨st, fun f hf => of_decide_eq_true (List.all_eq_true.1 nu f hf), eg⟩⟩
def bodyOf (f : Func) : Code := f.body.getD .skip
def FnE.of {f : FuncId} {fn : Func} (hf : P.funcs[f]? = some fn) (hb : fn.body = some (bodyOf fn)) (is : FnIs P f) : FnE P := ⟨f, fn, bodyOf fn, hf, hb, is⟩
def XtE.of {f : FuncId} {fn : Func} (hf : P.funcs[f]? = some fn) (hname : (fn.name == "runtime.NumGoroutine") = false) (hb : fn.body.isNone = true) (hn : Extern.findNext fn = none) (he : Extern.find fn = some Extern.AbiNoEscape.same) : XtE P :=
  ⟨f, fun ps => match ps with | [p] => some p | _ => none, fun ps q h F φ vs hl hv w => by
    split at h
    · rename_i p
      cases h
      obtain ⟨v, rfl⟩ : ∃ v, vs = #[v] := Array.size_eq_one_iff.1 hl.symm
      exact ⟨v, by rw [run_callFunc_extern hf hname hb hn he]; rfl, hv 0 q v rfl rfl⟩
    · cases h⟩
/-- Where a byte lies. -/
def XtE.ib {f : FuncId} {fn : Func} (hf : P.funcs[f]? = some fn) (hname : (fn.name == "runtime.NumGoroutine") = false) (hb : fn.body.isNone = true) (hn : Extern.findNext fn = none) (he : Extern.find fn = some Extern.BytealgIndexByte.indexByte) : XtE P :=
  ⟨f, fun ps => match ps with | [.t (.v (.string s)), .t (.v (.int .u8 c))] => some (.t (.v (.int .i64 (Lib.indexByte s.data.toList c.toNat.toUInt8)))) | _ => none, fun ps q h F φ vs hl hv w => by
    split at h
    · rename_i s c
      cases h
      obtain ⟨u, v, rfl⟩ : ∃ u v, vs = #[u, v] := by
        have h2 : vs.size = 2 := hl.symm
        match vs, h2 with
        | ⟨[u, v]⟩, _ => exact ⟨u, v, rfl⟩
      have hu := vrv (hv 0 _ u rfl rfl)
      have hw := vrv (hv 1 _ v rfl rfl)
      subst hu; subst hw
      exact ⟨_, by rw [run_callFunc_extern hf hname hb hn he, Lib.run_indexByteString]; rfl, .t (.v rfl)⟩
    · cases h⟩
/-- A new row of bytes. -/
def MkE.of {f : FuncId} {fn : Func} (hf : P.funcs[f]? = some fn) (hname : (fn.name == "runtime.NumGoroutine") = false) (hb : fn.body.isNone = true) (hn : Extern.findNext fn = none) {ps : Array TypeId} {t e : TypeId} (he : Extern.find fn = some (Extern.BytealgMakeNoZero.makeNoZero ps #[t])) (ht : P.underlying t = some (.slice e)) : MkE P :=
  ⟨f, e, fun m hm w => by
    obtain ⟨cs, h1, h2, _⟩ := Lib.run_makeNoZero (P := P) w ps t e ht m hm
    exact ⟨cs, by rw [run_callFunc_extern hf hname hb hn he, h1]; rfl, h2⟩⟩
theorem args_init {F : FMem} {φ : Phi} {vs : Array Value} {ts : List T} (h : ∀ (i : Nat) (x : T) (v : Value), ts[i]? = some x → vs[i]? = some v → TR F x v) : ∀ (i : Nat) (p : PV) (v : Value), (ts.map PV.t)[i]? = some p → vs[i]? = some v → VR F φ p v := by
  intro i p v hp hv
  rw [List.getElem?_map, Option.map_eq_some_iff] at hp
  obtain ⟨x, hx, rfl⟩ := hp
  exact .t (h i x v hx hv)
theorem Pure.ofRun {E : Env P} {fuel : Nat} {f : FuncId} {ts : List T} {t : T} {x : CR} (h : runF E fuel f (ts.map .t) .lf 0 = some x) (ht : x.p = .t t) : Pure P f ts (.one (.t t)) := by
  intro F vs w hF hn hv
  have hs : Sim ⟨(· < w.heap.size), []⟩ w (fun _ => none) F ⟨[], 0, [], 0, 0⟩ F (fun _ => none) { tmps := #[], defers := [] } w :=
    ⟨Bel.refl _ _, fun _ h => h, hF, FMem.le_refl F, fun x hx => absurd rfl hx, fun _ _ => rfl, Nat.le_refl _, fun _ _ => rfl, rfl, rfl, (fun i p hp => by cases hp), (fun b k hk => by cases hk), (fun b b' k k' B sz sz' hk => by cases hk)⟩
  obtain ⟨h1, _⟩ := runF_ok fuel _ _ _ _ _ h
  refine (h1 ⟨[], 0, [], 0, 0⟩ (fun b k hk => by cases hk) rfl _ _ _ _ _ _ _ _ hs trivial vs (by simpa using hn) (args_init hv)).mono ?_
  rintro e w' ⟨rv, s', F', φ', rfl, _, _, _, _, _, hs', hr⟩
  refine ⟨rv, F', rfl, hs'.fle, hs'.fok, fun a ha => Nat.le_of_not_lt (hs'.fnew a ha), hs'.below.below, .one (.t ?_)⟩
  rw [ht] at hr
  cases hr with
  | t h => exact h
/-- A closed function's answer. -/
def runB (E : Env P) (fuel : Nat) (f : FuncId) : Option Bool := match runF E fuel f [] .lf 0 with
  | some ⟨.t (.v (.bool b)), _, _, _⟩ => some b
  | _ => none
theorem Pure.ofB {E : Env P} {fuel : Nat} {f : FuncId} {b : Bool} (h : runB E fuel f = some b) : Pure P f [] (.one (.t (.v (.bool b)))) := by
  unfold runB at h
  split at h
  · rename_i b' h' n l hx
    cases h
    exact Pure.ofRun (ts := []) hx rfl
  · cases h
end
end Go.Proofs.YtdiimgkopknbcaaGreatDoor.E

/- The tables of the runner: closed facts, by program. -/
namespace Go.Proofs.YtdiimgkopknbcaaGreatDoor
open Go E
set_option maxRecDepth 100000
set_option maxHeartbeats 0
noncomputable def fe2 : FnE Tryz.prog := .of Tryz.func2 (by kernel_rfl) fn2
noncomputable def fe3 : FnE Tryz.prog := .of Tryz.func3 (by kernel_rfl) fn3
noncomputable def fe4 : FnE Tryz.prog := .of Tryz.func4 (by kernel_rfl) fn4
noncomputable def fe5 : FnE Tryz.prog := .of Tryz.func5 (by kernel_rfl) fn5
noncomputable def fe6 : FnE Tryz.prog := .of Tryz.func6 (by kernel_rfl) fn6
noncomputable def fe7 : FnE Tryz.prog := .of Tryz.func7 (by kernel_rfl) fn7
noncomputable def fe8 : FnE Tryz.prog := .of Tryz.func8 (by kernel_rfl) fn8
noncomputable def fe9 : FnE Tryz.prog := .of Tryz.func9 (by kernel_rfl) fn9
noncomputable def fe10 : FnE Tryz.prog := .of Tryz.func10 (by kernel_rfl) fn10
noncomputable def fe11 : FnE Tryz.prog := .of Tryz.func11 (by kernel_rfl) fn11
noncomputable def fe12 : FnE Tryz.prog := .of Tryz.func12 (by kernel_rfl) fn12
noncomputable def fe13 : FnE Tryz.prog := .of Tryz.func13 (by kernel_rfl) fn13
noncomputable def fe14 : FnE Tryz.prog := .of Tryz.func14 (by kernel_rfl) fn14
noncomputable def fe15 : FnE Tryz.prog := .of Tryz.func15 (by kernel_rfl) fn15
noncomputable def fe16 : FnE Tryz.prog := .of Tryz.func16 (by kernel_rfl) fn16
noncomputable def fe17 : FnE Tryz.prog := .of Tryz.func17 (by kernel_rfl) fn17
noncomputable def fe18 : FnE Tryz.prog := .of Tryz.func18 (by kernel_rfl) fn18
noncomputable def fe19 : FnE Tryz.prog := .of Tryz.func19 (by kernel_rfl) fn19
noncomputable def fe20 : FnE Tryz.prog := .of Tryz.func20 (by kernel_rfl) fn20
noncomputable def fe21 : FnE Tryz.prog := .of Tryz.func21 (by kernel_rfl) fn21
noncomputable def fe22 : FnE Tryz.prog := .of Tryz.func22 (by kernel_rfl) fn22
noncomputable def fe23 : FnE Tryz.prog := .of Tryz.func23 (by kernel_rfl) fn23
noncomputable def fe24 : FnE Tryz.prog := .of Tryz.func24 (by kernel_rfl) fn24
noncomputable def fe25 : FnE Tryz.prog := .of Tryz.func25 (by kernel_rfl) fn25
noncomputable def fe26 : FnE Tryz.prog := .of Tryz.func26 (by kernel_rfl) fn26
noncomputable def fe27 : FnE Tryz.prog := .of Tryz.func27 (by kernel_rfl) fn27
noncomputable def fe28 : FnE Tryz.prog := .of Tryz.func28 (by kernel_rfl) fn28
noncomputable def fe29 : FnE Tryz.prog := .of Tryz.func29 (by kernel_rfl) fn29
noncomputable def fe30 : FnE Tryz.prog := .of Tryz.func30 (by kernel_rfl) fn30
noncomputable def fe31 : FnE Tryz.prog := .of Tryz.func31 (by kernel_rfl) fn31
noncomputable def fe32 : FnE Tryz.prog := .of Tryz.func32 (by kernel_rfl) fn32
noncomputable def fe33 : FnE Tryz.prog := .of Tryz.func33 (by kernel_rfl) fn33
noncomputable def fe34 : FnE Tryz.prog := .of Tryz.func34 (by kernel_rfl) fn34
noncomputable def fe35 : FnE Tryz.prog := .of Tryz.func35 (by kernel_rfl) fn35
noncomputable def fe36 : FnE Tryz.prog := .of Tryz.func36 (by kernel_rfl) fn36
noncomputable def fe37 : FnE Tryz.prog := .of Tryz.func37 (by kernel_rfl) fn37
noncomputable def fe38 : FnE Tryz.prog := .of Tryz.func38 (by kernel_rfl) fn38
noncomputable def fe39 : FnE Tryz.prog := .of Tryz.func39 (by kernel_rfl) fn39
noncomputable def fe40 : FnE Tryz.prog := .of Tryz.func40 (by kernel_rfl) fn40
noncomputable def fe41 : FnE Tryz.prog := .of Tryz.func41 (by kernel_rfl) fn41
noncomputable def fe42 : FnE Tryz.prog := .of Tryz.func42 (by kernel_rfl) fn42
noncomputable def fe43 : FnE Tryz.prog := .of Tryz.func43 (by kernel_rfl) fn43
noncomputable def fe44 : FnE Tryz.prog := .of Tryz.func44 (by kernel_rfl) fn44
noncomputable def fe45 : FnE Tryz.prog := .of Tryz.func45 (by kernel_rfl) fn45
noncomputable def fe46 : FnE Tryz.prog := .of Tryz.func46 (by kernel_rfl) fn46
noncomputable def fe47 : FnE Tryz.prog := .of Tryz.func47 (by kernel_rfl) fn47
noncomputable def fe48 : FnE Tryz.prog := .of Tryz.func48 (by kernel_rfl) fn48
noncomputable def fe49 : FnE Tryz.prog := .of Tryz.func49 (by kernel_rfl) fn49
noncomputable def fe50 : FnE Tryz.prog := .of Tryz.func50 (by kernel_rfl) fn50
noncomputable def fe51 : FnE Tryz.prog := .of Tryz.func51 (by kernel_rfl) fn51
noncomputable def fe52 : FnE Tryz.prog := .of Tryz.func52 (by kernel_rfl) fn52
noncomputable def fe53 : FnE Tryz.prog := .of Tryz.func53 (by kernel_rfl) fn53
noncomputable def fe54 : FnE Tryz.prog := .of Tryz.func54 (by kernel_rfl) fn54
noncomputable def fe55 : FnE Tryz.prog := .of Tryz.func55 (by kernel_rfl) fn55
noncomputable def fe56 : FnE Tryz.prog := .of Tryz.func56 (by kernel_rfl) fn56
noncomputable def fe57 : FnE Tryz.prog := .of Tryz.func57 (by kernel_rfl) fn57
noncomputable def fe58 : FnE Tryz.prog := .of Tryz.func58 (by kernel_rfl) fn58
noncomputable def fe59 : FnE Tryz.prog := .of Tryz.func59 (by kernel_rfl) fn59
noncomputable def fe60 : FnE Tryz.prog := .of Tryz.func60 (by kernel_rfl) fn60
noncomputable def fe61 : FnE Tryz.prog := .of Tryz.func61 (by kernel_rfl) fn61
noncomputable def fe62 : FnE Tryz.prog := .of Tryz.func62 (by kernel_rfl) fn62
noncomputable def fe63 : FnE Tryz.prog := .of Tryz.func63 (by kernel_rfl) fn63
noncomputable def fe64 : FnE Tryz.prog := .of Tryz.func64 (by kernel_rfl) fn64
noncomputable def fe65 : FnE Tryz.prog := .of Tryz.func65 (by kernel_rfl) fn65
noncomputable def fe66 : FnE Tryz.prog := .of Tryz.func66 (by kernel_rfl) fn66
noncomputable def fe67 : FnE Tryz.prog := .of Tryz.func67 (by kernel_rfl) fn67
noncomputable def fe68 : FnE Tryz.prog := .of Tryz.func68 (by kernel_rfl) fn68
noncomputable def fe69 : FnE Tryz.prog := .of Tryz.func69 (by kernel_rfl) fn69
noncomputable def fe70 : FnE Tryz.prog := .of Tryz.func70 (by kernel_rfl) fn70
noncomputable def fe71 : FnE Tryz.prog := .of Tryz.func71 (by kernel_rfl) fn71
noncomputable def fe72 : FnE Tryz.prog := .of Tryz.func72 (by kernel_rfl) fn72
noncomputable def fe73 : FnE Tryz.prog := .of Tryz.func73 (by kernel_rfl) fn73
noncomputable def fe74 : FnE Tryz.prog := .of Tryz.func74 (by kernel_rfl) fn74
noncomputable def fe75 : FnE Tryz.prog := .of Tryz.func75 (by kernel_rfl) fn75
noncomputable def fe76 : FnE Tryz.prog := .of Tryz.func76 (by kernel_rfl) fn76
noncomputable def fe77 : FnE Tryz.prog := .of Tryz.func77 (by kernel_rfl) fn77
noncomputable def fe78 : FnE Tryz.prog := .of Tryz.func78 (by kernel_rfl) fn78
noncomputable def fe79 : FnE Tryz.prog := .of Tryz.func79 (by kernel_rfl) fn79
noncomputable def fe80 : FnE Tryz.prog := .of Tryz.func80 (by kernel_rfl) fn80
noncomputable def fe81 : FnE Tryz.prog := .of Tryz.func81 (by kernel_rfl) fn81
noncomputable def fe82 : FnE Tryz.prog := .of Tryz.func82 (by kernel_rfl) fn82
noncomputable def fe83 : FnE Tryz.prog := .of Tryz.func83 (by kernel_rfl) fn83
noncomputable def fe84 : FnE Tryz.prog := .of Tryz.func84 (by kernel_rfl) fn84
noncomputable def fe85 : FnE Tryz.prog := .of Tryz.func85 (by kernel_rfl) fn85
noncomputable def fe86 : FnE Tryz.prog := .of Tryz.func86 (by kernel_rfl) fn86
noncomputable def fe87 : FnE Tryz.prog := .of Tryz.func87 (by kernel_rfl) fn87
noncomputable def fe88 : FnE Tryz.prog := .of Tryz.func88 (by kernel_rfl) fn88
noncomputable def fe89 : FnE Tryz.prog := .of Tryz.func89 (by kernel_rfl) fn89
noncomputable def fe90 : FnE Tryz.prog := .of Tryz.func90 (by kernel_rfl) fn90
noncomputable def fe91 : FnE Tryz.prog := .of Tryz.func91 (by kernel_rfl) fn91
noncomputable def fe92 : FnE Tryz.prog := .of Tryz.func92 (by kernel_rfl) fn92
noncomputable def fe93 : FnE Tryz.prog := .of Tryz.func93 (by kernel_rfl) fn93
noncomputable def fe94 : FnE Tryz.prog := .of Tryz.func94 (by kernel_rfl) fn94
noncomputable def fe95 : FnE Tryz.prog := .of Tryz.func95 (by kernel_rfl) fn95
noncomputable def fe96 : FnE Tryz.prog := .of Tryz.func96 (by kernel_rfl) fn96
noncomputable def fe97 : FnE Tryz.prog := .of Tryz.func97 (by kernel_rfl) fn97
noncomputable def fe98 : FnE Tryz.prog := .of Tryz.func98 (by kernel_rfl) fn98
noncomputable def fe99 : FnE Tryz.prog := .of Tryz.func99 (by kernel_rfl) fn99
noncomputable def fe100 : FnE Tryz.prog := .of Tryz.func100 (by kernel_rfl) fn100
noncomputable def fe101 : FnE Tryz.prog := .of Tryz.func101 (by kernel_rfl) fn101
noncomputable def fe102 : FnE Tryz.prog := .of Tryz.func102 (by kernel_rfl) fn102
noncomputable def fe103 : FnE Tryz.prog := .of Tryz.func103 (by kernel_rfl) fn103
noncomputable def fe104 : FnE Tryz.prog := .of Tryz.func104 (by kernel_rfl) fn104
noncomputable def fe105 : FnE Tryz.prog := .of Tryz.func105 (by kernel_rfl) fn105
noncomputable def fe106 : FnE Tryz.prog := .of Tryz.func106 (by kernel_rfl) fn106
noncomputable def fe107 : FnE Tryz.prog := .of Tryz.func107 (by kernel_rfl) fn107
noncomputable def fe108 : FnE Tryz.prog := .of Tryz.func108 (by kernel_rfl) fn108
noncomputable def fe109 : FnE Tryz.prog := .of Tryz.func109 (by kernel_rfl) fn109
noncomputable def fe110 : FnE Tryz.prog := .of Tryz.func110 (by kernel_rfl) fn110
noncomputable def fe111 : FnE Tryz.prog := .of Tryz.func111 (by kernel_rfl) fn111
noncomputable def fe112 : FnE Tryz.prog := .of Tryz.func112 (by kernel_rfl) fn112
noncomputable def fe113 : FnE Tryz.prog := .of Tryz.func113 (by kernel_rfl) fn113
noncomputable def fe114 : FnE Tryz.prog := .of Tryz.func114 (by kernel_rfl) fn114
noncomputable def fe115 : FnE Tryz.prog := .of Tryz.func115 (by kernel_rfl) fn115
noncomputable def fe116 : FnE Tryz.prog := .of Tryz.func116 (by kernel_rfl) fn116
noncomputable def fe117 : FnE Tryz.prog := .of Tryz.func117 (by kernel_rfl) fn117
noncomputable def fe118 : FnE Tryz.prog := .of Tryz.func118 (by kernel_rfl) fn118
noncomputable def fe119 : FnE Tryz.prog := .of Tryz.func119 (by kernel_rfl) fn119
noncomputable def fe120 : FnE Tryz.prog := .of Tryz.func120 (by kernel_rfl) fn120
noncomputable def fe121 : FnE Tryz.prog := .of Tryz.func121 (by kernel_rfl) fn121
noncomputable def fe122 : FnE Tryz.prog := .of Tryz.func122 (by kernel_rfl) fn122
noncomputable def fe123 : FnE Tryz.prog := .of Tryz.func123 (by kernel_rfl) fn123
noncomputable def fe124 : FnE Tryz.prog := .of Tryz.func124 (by kernel_rfl) fn124
noncomputable def fe125 : FnE Tryz.prog := .of Tryz.func125 (by kernel_rfl) fn125
noncomputable def fe126 : FnE Tryz.prog := .of Tryz.func126 (by kernel_rfl) fn126
noncomputable def fe127 : FnE Tryz.prog := .of Tryz.func127 (by kernel_rfl) fn127
noncomputable def fe128 : FnE Tryz.prog := .of Tryz.func128 (by kernel_rfl) fn128
noncomputable def fe129 : FnE Tryz.prog := .of Tryz.func129 (by kernel_rfl) fn129
noncomputable def fe130 : FnE Tryz.prog := .of Tryz.func130 (by kernel_rfl) fn130
noncomputable def fe131 : FnE Tryz.prog := .of Tryz.func131 (by kernel_rfl) fn131
noncomputable def fe132 : FnE Tryz.prog := .of Tryz.func132 (by kernel_rfl) fn132
noncomputable def fe133 : FnE Tryz.prog := .of Tryz.func133 (by kernel_rfl) fn133
noncomputable def fe134 : FnE Tryz.prog := .of Tryz.func134 (by kernel_rfl) fn134
noncomputable def fe135 : FnE Tryz.prog := .of Tryz.func135 (by kernel_rfl) fn135
noncomputable def fe136 : FnE Tryz.prog := .of Tryz.func136 (by kernel_rfl) fn136
noncomputable def fe137 : FnE Tryz.prog := .of Tryz.func137 (by kernel_rfl) fn137
noncomputable def fe138 : FnE Tryz.prog := .of Tryz.func138 (by kernel_rfl) fn138
noncomputable def fe139 : FnE Tryz.prog := .of Tryz.func139 (by kernel_rfl) fn139
noncomputable def fe140 : FnE Tryz.prog := .of Tryz.func140 (by kernel_rfl) fn140
noncomputable def fe141 : FnE Tryz.prog := .of Tryz.func141 (by kernel_rfl) fn141
noncomputable def fe142 : FnE Tryz.prog := .of Tryz.func142 (by kernel_rfl) fn142
noncomputable def fe143 : FnE Tryz.prog := .of Tryz.func143 (by kernel_rfl) fn143
noncomputable def fe144 : FnE Tryz.prog := .of Tryz.func144 (by kernel_rfl) fn144
noncomputable def fe145 : FnE Tryz.prog := .of Tryz.func145 (by kernel_rfl) fn145
noncomputable def fe146 : FnE Tryz.prog := .of Tryz.func146 (by kernel_rfl) fn146
noncomputable def fe147 : FnE Tryz.prog := .of Tryz.func147 (by kernel_rfl) fn147
noncomputable def fe148 : FnE Tryz.prog := .of Tryz.func148 (by kernel_rfl) fn148
noncomputable def fe149 : FnE Tryz.prog := .of Tryz.func149 (by kernel_rfl) fn149
noncomputable def fe150 : FnE Tryz.prog := .of Tryz.func150 (by kernel_rfl) fn150
noncomputable def fe151 : FnE Tryz.prog := .of Tryz.func151 (by kernel_rfl) fn151
noncomputable def fe152 : FnE Tryz.prog := .of Tryz.func152 (by kernel_rfl) fn152
noncomputable def fe153 : FnE Tryz.prog := .of Tryz.func153 (by kernel_rfl) fn153
noncomputable def fe154 : FnE Tryz.prog := .of Tryz.func154 (by kernel_rfl) fn154
noncomputable def fe155 : FnE Tryz.prog := .of Tryz.func155 (by kernel_rfl) fn155
noncomputable def fe156 : FnE Tryz.prog := .of Tryz.func156 (by kernel_rfl) fn156
noncomputable def fe157 : FnE Tryz.prog := .of Tryz.func157 (by kernel_rfl) fn157
noncomputable def fe158 : FnE Tryz.prog := .of Tryz.func158 (by kernel_rfl) fn158
noncomputable def fe159 : FnE Tryz.prog := .of Tryz.func159 (by kernel_rfl) fn159
noncomputable def fe160 : FnE Tryz.prog := .of Tryz.func160 (by kernel_rfl) fn160
noncomputable def fe161 : FnE Tryz.prog := .of Tryz.func161 (by kernel_rfl) fn161
noncomputable def fe162 : FnE Tryz.prog := .of Tryz.func162 (by kernel_rfl) fn162
noncomputable def fe163 : FnE Tryz.prog := .of Tryz.func163 (by kernel_rfl) fn163
noncomputable def fe164 : FnE Tryz.prog := .of Tryz.func164 (by kernel_rfl) fn164
noncomputable def fe165 : FnE Tryz.prog := .of Tryz.func165 (by kernel_rfl) fn165
noncomputable def fe166 : FnE Tryz.prog := .of Tryz.func166 (by kernel_rfl) fn166
noncomputable def fe167 : FnE Tryz.prog := .of Tryz.func167 (by kernel_rfl) fn167
noncomputable def fe168 : FnE Tryz.prog := .of Tryz.func168 (by kernel_rfl) fn168
noncomputable def fe169 : FnE Tryz.prog := .of Tryz.func169 (by kernel_rfl) fn169
noncomputable def fe170 : FnE Tryz.prog := .of Tryz.func170 (by kernel_rfl) fn170
noncomputable def fe171 : FnE Tryz.prog := .of Tryz.func171 (by kernel_rfl) fn171
noncomputable def fe172 : FnE Tryz.prog := .of Tryz.func172 (by kernel_rfl) fn172
noncomputable def fe173 : FnE Tryz.prog := .of Tryz.func173 (by kernel_rfl) fn173
noncomputable def fe174 : FnE Tryz.prog := .of Tryz.func174 (by kernel_rfl) fn174
noncomputable def fe175 : FnE Tryz.prog := .of Tryz.func175 (by kernel_rfl) fn175
noncomputable def fe176 : FnE Tryz.prog := .of Tryz.func176 (by kernel_rfl) fn176
noncomputable def fe177 : FnE Tryz.prog := .of Tryz.func177 (by kernel_rfl) fn177
noncomputable def fe178 : FnE Tryz.prog := .of Tryz.func178 (by kernel_rfl) fn178
noncomputable def fe179 : FnE Tryz.prog := .of Tryz.func179 (by kernel_rfl) fn179
noncomputable def fe180 : FnE Tryz.prog := .of Tryz.func180 (by kernel_rfl) fn180
noncomputable def fe181 : FnE Tryz.prog := .of Tryz.func181 (by kernel_rfl) fn181
noncomputable def fe182 : FnE Tryz.prog := .of Tryz.func182 (by kernel_rfl) fn182
noncomputable def fe183 : FnE Tryz.prog := .of Tryz.func183 (by kernel_rfl) fn183
noncomputable def fe184 : FnE Tryz.prog := .of Tryz.func184 (by kernel_rfl) fn184
noncomputable def fe185 : FnE Tryz.prog := .of Tryz.func185 (by kernel_rfl) fn185
noncomputable def fe186 : FnE Tryz.prog := .of Tryz.func186 (by kernel_rfl) fn186
noncomputable def fe187 : FnE Tryz.prog := .of Tryz.func187 (by kernel_rfl) fn187
noncomputable def fe188 : FnE Tryz.prog := .of Tryz.func188 (by kernel_rfl) fn188
noncomputable def fe189 : FnE Tryz.prog := .of Tryz.func189 (by kernel_rfl) fn189
noncomputable def fe190 : FnE Tryz.prog := .of Tryz.func190 (by kernel_rfl) fn190
noncomputable def fe191 : FnE Tryz.prog := .of Tryz.func191 (by kernel_rfl) fn191
noncomputable def fe192 : FnE Tryz.prog := .of Tryz.func192 (by kernel_rfl) fn192
noncomputable def fe193 : FnE Tryz.prog := .of Tryz.func193 (by kernel_rfl) fn193
noncomputable def fe194 : FnE Tryz.prog := .of Tryz.func194 (by kernel_rfl) fn194
noncomputable def fe195 : FnE Tryz.prog := .of Tryz.func195 (by kernel_rfl) fn195
noncomputable def fe196 : FnE Tryz.prog := .of Tryz.func196 (by kernel_rfl) fn196
noncomputable def fe197 : FnE Tryz.prog := .of Tryz.func197 (by kernel_rfl) fn197
noncomputable def fe198 : FnE Tryz.prog := .of Tryz.func198 (by kernel_rfl) fn198
noncomputable def fe199 : FnE Tryz.prog := .of Tryz.func199 (by kernel_rfl) fn199
noncomputable def fe200 : FnE Tryz.prog := .of Tryz.func200 (by kernel_rfl) fn200
noncomputable def fe201 : FnE Tryz.prog := .of Tryz.func201 (by kernel_rfl) fn201
noncomputable def fe202 : FnE Tryz.prog := .of Tryz.func202 (by kernel_rfl) fn202
noncomputable def fe203 : FnE Tryz.prog := .of Tryz.func203 (by kernel_rfl) fn203
noncomputable def fe204 : FnE Tryz.prog := .of Tryz.func204 (by kernel_rfl) fn204
noncomputable def fe205 : FnE Tryz.prog := .of Tryz.func205 (by kernel_rfl) fn205
noncomputable def fe206 : FnE Tryz.prog := .of Tryz.func206 (by kernel_rfl) fn206
noncomputable def fe207 : FnE Tryz.prog := .of Tryz.func207 (by kernel_rfl) fn207
noncomputable def fe208 : FnE Tryz.prog := .of Tryz.func208 (by kernel_rfl) fn208
noncomputable def fe209 : FnE Tryz.prog := .of Tryz.func209 (by kernel_rfl) fn209
noncomputable def fe210 : FnE Tryz.prog := .of Tryz.func210 (by kernel_rfl) fn210
noncomputable def fe211 : FnE Tryz.prog := .of Tryz.func211 (by kernel_rfl) fn211
noncomputable def fe212 : FnE Tryz.prog := .of Tryz.func212 (by kernel_rfl) fn212
noncomputable def fe213 : FnE Tryz.prog := .of Tryz.func213 (by kernel_rfl) fn213
noncomputable def fe214 : FnE Tryz.prog := .of Tryz.func214 (by kernel_rfl) fn214
noncomputable def fe215 : FnE Tryz.prog := .of Tryz.func215 (by kernel_rfl) fn215
noncomputable def fe216 : FnE Tryz.prog := .of Tryz.func216 (by kernel_rfl) fn216
noncomputable def fe217 : FnE Tryz.prog := .of Tryz.func217 (by kernel_rfl) fn217
noncomputable def fe218 : FnE Tryz.prog := .of Tryz.func218 (by kernel_rfl) fn218
noncomputable def fe219 : FnE Tryz.prog := .of Tryz.func219 (by kernel_rfl) fn219
noncomputable def fe220 : FnE Tryz.prog := .of Tryz.func220 (by kernel_rfl) fn220
noncomputable def fe221 : FnE Tryz.prog := .of Tryz.func221 (by kernel_rfl) fn221
noncomputable def fe222 : FnE Tryz.prog := .of Tryz.func222 (by kernel_rfl) fn222
noncomputable def fe223 : FnE Tryz.prog := .of Tryz.func223 (by kernel_rfl) fn223
noncomputable def fe224 : FnE Tryz.prog := .of Tryz.func224 (by kernel_rfl) fn224
noncomputable def fe225 : FnE Tryz.prog := .of Tryz.func225 (by kernel_rfl) fn225
noncomputable def fe226 : FnE Tryz.prog := .of Tryz.func226 (by kernel_rfl) fn226
noncomputable def fe227 : FnE Tryz.prog := .of Tryz.func227 (by kernel_rfl) fn227
noncomputable def fe228 : FnE Tryz.prog := .of Tryz.func228 (by kernel_rfl) fn228
noncomputable def fe229 : FnE Tryz.prog := .of Tryz.func229 (by kernel_rfl) fn229
noncomputable def fe230 : FnE Tryz.prog := .of Tryz.func230 (by kernel_rfl) fn230
noncomputable def fe231 : FnE Tryz.prog := .of Tryz.func231 (by kernel_rfl) fn231
noncomputable def fe232 : FnE Tryz.prog := .of Tryz.func232 (by kernel_rfl) fn232
noncomputable def fe233 : FnE Tryz.prog := .of Tryz.func233 (by kernel_rfl) fn233
noncomputable def fe234 : FnE Tryz.prog := .of Tryz.func234 (by kernel_rfl) fn234
noncomputable def fe235 : FnE Tryz.prog := .of Tryz.func235 (by kernel_rfl) fn235
noncomputable def fe236 : FnE Tryz.prog := .of Tryz.func236 (by kernel_rfl) fn236
noncomputable def fe237 : FnE Tryz.prog := .of Tryz.func237 (by kernel_rfl) fn237
noncomputable def fe238 : FnE Tryz.prog := .of Tryz.func238 (by kernel_rfl) fn238
noncomputable def fe239 : FnE Tryz.prog := .of Tryz.func239 (by kernel_rfl) fn239
noncomputable def fe240 : FnE Tryz.prog := .of Tryz.func240 (by kernel_rfl) fn240
noncomputable def fe241 : FnE Tryz.prog := .of Tryz.func241 (by kernel_rfl) fn241
noncomputable def fe242 : FnE Tryz.prog := .of Tryz.func242 (by kernel_rfl) fn242
noncomputable def fe243 : FnE Tryz.prog := .of Tryz.func243 (by kernel_rfl) fn243
noncomputable def fe244 : FnE Tryz.prog := .of Tryz.func244 (by kernel_rfl) fn244
noncomputable def fe245 : FnE Tryz.prog := .of Tryz.func245 (by kernel_rfl) fn245
noncomputable def fe246 : FnE Tryz.prog := .of Tryz.func246 (by kernel_rfl) fn246
noncomputable def fe247 : FnE Tryz.prog := .of Tryz.func247 (by kernel_rfl) fn247
noncomputable def fe248 : FnE Tryz.prog := .of Tryz.func248 (by kernel_rfl) fn248
noncomputable def fe249 : FnE Tryz.prog := .of Tryz.func249 (by kernel_rfl) fn249
noncomputable def fe250 : FnE Tryz.prog := .of Tryz.func250 (by kernel_rfl) fn250
noncomputable def fe251 : FnE Tryz.prog := .of Tryz.func251 (by kernel_rfl) fn251
noncomputable def fe252 : FnE Tryz.prog := .of Tryz.func252 (by kernel_rfl) fn252
noncomputable def fe253 : FnE Tryz.prog := .of Tryz.func253 (by kernel_rfl) fn253
noncomputable def fe254 : FnE Tryz.prog := .of Tryz.func254 (by kernel_rfl) fn254
noncomputable def fe255 : FnE Tryz.prog := .of Tryz.func255 (by kernel_rfl) fn255
noncomputable def fe256 : FnE Tryz.prog := .of Tryz.func256 (by kernel_rfl) fn256
noncomputable def fe258 : FnE Tryz.prog := .of Tryz.func258 (by kernel_rfl) fn258
noncomputable def fe259 : FnE Tryz.prog := .of Tryz.func259 (by kernel_rfl) fn259
noncomputable def fe260 : FnE Tryz.prog := .of Tryz.func260 (by kernel_rfl) fn260
noncomputable def fe261 : FnE Tryz.prog := .of Tryz.func261 (by kernel_rfl) fn261
noncomputable def fe262 : FnE Tryz.prog := .of Tryz.func262 (by kernel_rfl) fn262
noncomputable def fe263 : FnE Tryz.prog := .of Tryz.func263 (by kernel_rfl) fn263
noncomputable def fe264 : FnE Tryz.prog := .of Tryz.func264 (by kernel_rfl) fn264
noncomputable def fe265 : FnE Tryz.prog := .of Tryz.func265 (by kernel_rfl) fn265
noncomputable def fe266 : FnE Tryz.prog := .of Tryz.func266 (by kernel_rfl) fn266
noncomputable def fe267 : FnE Tryz.prog := .of Tryz.func267 (by kernel_rfl) fn267
noncomputable def fe268 : FnE Tryz.prog := .of Tryz.func268 (by kernel_rfl) fn268
noncomputable def fe269 : FnE Tryz.prog := .of Tryz.func269 (by kernel_rfl) fn269
noncomputable def fe270 : FnE Tryz.prog := .of Tryz.func270 (by kernel_rfl) fn270
noncomputable def fe271 : FnE Tryz.prog := .of Tryz.func271 (by kernel_rfl) fn271
noncomputable def fe272 : FnE Tryz.prog := .of Tryz.func272 (by kernel_rfl) fn272
noncomputable def fe273 : FnE Tryz.prog := .of Tryz.func273 (by kernel_rfl) fn273
noncomputable def fe274 : FnE Tryz.prog := .of Tryz.func274 (by kernel_rfl) fn274
noncomputable def fe275 : FnE Tryz.prog := .of Tryz.func275 (by kernel_rfl) fn275
noncomputable def fe276 : FnE Tryz.prog := .of Tryz.func276 (by kernel_rfl) fn276
noncomputable def fe277 : FnE Tryz.prog := .of Tryz.func277 (by kernel_rfl) fn277
noncomputable def fe278 : FnE Tryz.prog := .of Tryz.func278 (by kernel_rfl) fn278
noncomputable def fe279 : FnE Tryz.prog := .of Tryz.func279 (by kernel_rfl) fn279
noncomputable def fe280 : FnE Tryz.prog := .of Tryz.func280 (by kernel_rfl) fn280
noncomputable def fe281 : FnE Tryz.prog := .of Tryz.func281 (by kernel_rfl) fn281
noncomputable def fe282 : FnE Tryz.prog := .of Tryz.func282 (by kernel_rfl) fn282
noncomputable def fe283 : FnE Tryz.prog := .of Tryz.func283 (by kernel_rfl) fn283
noncomputable def fe284 : FnE Tryz.prog := .of Tryz.func284 (by kernel_rfl) fn284
noncomputable def fe285 : FnE Tryz.prog := .of Tryz.func285 (by kernel_rfl) fn285
noncomputable def fe286 : FnE Tryz.prog := .of Tryz.func286 (by kernel_rfl) fn286
noncomputable def fe287 : FnE Tryz.prog := .of Tryz.func287 (by kernel_rfl) fn287
noncomputable def fe288 : FnE Tryz.prog := .of Tryz.func288 (by kernel_rfl) fn288
noncomputable def fe290 : FnE Tryz.prog := .of Tryz.func290 (by kernel_rfl) fn290
noncomputable def fe291 : FnE Tryz.prog := .of Tryz.func291 (by kernel_rfl) fn291
noncomputable def fe292 : FnE Tryz.prog := .of Tryz.func292 (by kernel_rfl) fn292
noncomputable def fe294 : FnE Tryz.prog := .of Tryz.func294 (by kernel_rfl) fn294
noncomputable def fe321 : FnE Tryz.prog := .of Tryz.func321 (by kernel_rfl) fn321
noncomputable def tyT : BT (TyE Tryz.prog) := (.node 211 (.of ty211) (.node 105 (.of ty105) (.node 52 (.of ty52) (.node 24 (.of ty24) (.node 12 (.of ty12) (.node 6 (.of ty6) (.node 3 (.of ty3) (.node 2 (.of ty2) (.node 1 (.of ty1) .nil .nil) .nil) (.node 5 (.of ty5) (.node 4 (.of ty4) .nil .nil) .nil)) (.node 9 (.of ty9) (.node 8 (.of ty8) (.node 7 (.of ty7) .nil .nil) .nil) (.node 11 (.of ty11) (.node 10 (.of ty10) .nil .nil) .nil))) (.node 18 (.of ty18) (.node 15 (.of ty15) (.node 14 (.of ty14) (.node 13 (.of ty13) .nil .nil) .nil) (.node 17 (.of ty17) (.node 16 (.of ty16) .nil .nil) .nil)) (.node 21 (.of ty21) (.node 20 (.of ty20) (.node 19 (.of ty19) .nil .nil) .nil) (.node 23 (.of ty23) (.node 22 (.of ty22) .nil .nil) .nil)))) (.node 39 (.of ty39) (.node 30 (.of ty30) (.node 27 (.of ty27) (.node 26 (.of ty26) (.node 25 (.of ty25) .nil .nil) .nil) (.node 29 (.of ty29) (.node 28 (.of ty28) .nil .nil) .nil)) (.node 33 (.of ty33) (.node 32 (.of ty32) (.node 31 (.of ty31) .nil .nil) .nil) (.node 37 (.of ty37) (.node 35 (.of ty35) .nil .nil) .nil))) (.node 46 (.of ty46) (.node 42 (.of ty42) (.node 41 (.of ty41) (.node 40 (.of ty40) .nil .nil) .nil) (.node 45 (.of ty45) (.node 43 (.of ty43) .nil .nil) .nil)) (.node 49 (.of ty49) (.node 48 (.of ty48) (.node 47 (.of ty47) .nil .nil) .nil) (.node 51 (.of ty51) (.node 50 (.of ty50) .nil .nil) .nil))))) (.node 79 (.of ty79) (.node 65 (.of ty65) (.node 59 (.of ty59) (.node 55 (.of ty55) (.node 54 (.of ty54) (.node 53 (.of ty53) .nil .nil) .nil) (.node 58 (.of ty58) (.node 56 (.of ty56) .nil .nil) .nil)) (.node 62 (.of ty62) (.node 61 (.of ty61) (.node 60 (.of ty60) .nil .nil) .nil) (.node 64 (.of ty64) (.node 63 (.of ty63) .nil .nil) .nil))) (.node 71 (.of ty71) (.node 68 (.of ty68) (.node 67 (.of ty67) (.node 66 (.of ty66) .nil .nil) .nil) (.node 70 (.of ty70) (.node 69 (.of ty69) .nil .nil) .nil)) (.node 76 (.of ty76) (.node 75 (.of ty75) (.node 73 (.of ty73) .nil .nil) .nil) (.node 78 (.of ty78) (.node 77 (.of ty77) .nil .nil) .nil)))) (.node 93 (.of ty93) (.node 86 (.of ty86) (.node 82 (.of ty82) (.node 81 (.of ty81) (.node 80 (.of ty80) .nil .nil) .nil) (.node 84 (.of ty84) (.node 83 (.of ty83) .nil .nil) .nil)) (.node 90 (.of ty90) (.node 89 (.of ty89) (.node 88 (.of ty88) .nil .nil) .nil) (.node 92 (.of ty92) (.node 91 (.of ty91) .nil .nil) .nil))) (.node 99 (.of ty99) (.node 96 (.of ty96) (.node 95 (.of ty95) (.node 94 (.of ty94) .nil .nil) .nil) (.node 98 (.of ty98) (.node 97 (.of ty97) .nil .nil) .nil)) (.node 102 (.of ty102) (.node 101 (.of ty101) (.node 100 (.of ty100) .nil .nil) .nil) (.node 104 (.of ty104) (.node 103 (.of ty103) .nil .nil) .nil)))))) (.node 161 (.of ty161) (.node 131 (.of ty131) (.node 117 (.of ty117) (.node 111 (.of ty111) (.node 108 (.of ty108) (.node 107 (.of ty107) (.node 106 (.of ty106) .nil .nil) .nil) (.node 110 (.of ty110) (.node 109 (.of ty109) .nil .nil) .nil)) (.node 114 (.of ty114) (.node 113 (.of ty113) (.node 112 (.of ty112) .nil .nil) .nil) (.node 116 (.of ty116) (.node 115 (.of ty115) .nil .nil) .nil))) (.node 124 (.of ty124) (.node 120 (.of ty120) (.node 119 (.of ty119) (.node 118 (.of ty118) .nil .nil) .nil) (.node 122 (.of ty122) (.node 121 (.of ty121) .nil .nil) .nil)) (.node 127 (.of ty127) (.node 126 (.of ty126) (.node 125 (.of ty125) .nil .nil) .nil) (.node 130 (.of ty130) (.node 128 (.of ty128) .nil .nil) .nil)))) (.node 146 (.of ty146) (.node 138 (.of ty138) (.node 135 (.of ty135) (.node 134 (.of ty134) (.node 132 (.of ty132) .nil .nil) .nil) (.node 137 (.of ty137) (.node 136 (.of ty136) .nil .nil) .nil)) (.node 142 (.of ty142) (.node 141 (.of ty141) (.node 140 (.of ty140) .nil .nil) .nil) (.node 144 (.of ty144) (.node 143 (.of ty143) .nil .nil) .nil))) (.node 155 (.of ty155) (.node 150 (.of ty150) (.node 149 (.of ty149) (.node 147 (.of ty147) .nil .nil) .nil) (.node 153 (.of ty153) (.node 151 (.of ty151) .nil .nil) .nil)) (.node 158 (.of ty158) (.node 157 (.of ty157) (.node 156 (.of ty156) .nil .nil) .nil) (.node 160 (.of ty160) (.node 159 (.of ty159) .nil .nil) .nil))))) (.node 187 (.of ty187) (.node 174 (.of ty174) (.node 168 (.of ty168) (.node 165 (.of ty165) (.node 164 (.of ty164) (.node 163 (.of ty163) .nil .nil) .nil) (.node 167 (.of ty167) (.node 166 (.of ty166) .nil .nil) .nil)) (.node 171 (.of ty171) (.node 170 (.of ty170) (.node 169 (.of ty169) .nil .nil) .nil) (.node 173 (.of ty173) (.node 172 (.of ty172) .nil .nil) .nil))) (.node 180 (.of ty180) (.node 177 (.of ty177) (.node 176 (.of ty176) (.node 175 (.of ty175) .nil .nil) .nil) (.node 179 (.of ty179) (.node 178 (.of ty178) .nil .nil) .nil)) (.node 183 (.of ty183) (.node 182 (.of ty182) (.node 181 (.of ty181) .nil .nil) .nil) (.node 186 (.of ty186) (.node 185 (.of ty185) .nil .nil) .nil)))) (.node 199 (.of ty199) (.node 193 (.of ty193) (.node 190 (.of ty190) (.node 189 (.of ty189) (.node 188 (.of ty188) .nil .nil) .nil) (.node 192 (.of ty192) (.node 191 (.of ty191) .nil .nil) .nil)) (.node 196 (.of ty196) (.node 195 (.of ty195) (.node 194 (.of ty194) .nil .nil) .nil) (.node 198 (.of ty198) (.node 197 (.of ty197) .nil .nil) .nil))) (.node 205 (.of ty205) (.node 202 (.of ty202) (.node 201 (.of ty201) (.node 200 (.of ty200) .nil .nil) .nil) (.node 204 (.of ty204) (.node 203 (.of ty203) .nil .nil) .nil)) (.node 208 (.of ty208) (.node 207 (.of ty207) (.node 206 (.of ty206) .nil .nil) .nil) (.node 210 (.of ty210) (.node 209 (.of ty209) .nil .nil) .nil))))))) (.node 311 (.of ty311) (.node 261 (.of ty261) (.node 237 (.of ty237) (.node 225 (.of ty225) (.node 218 (.of ty218) (.node 214 (.of ty214) (.node 213 (.of ty213) (.node 212 (.of ty212) .nil .nil) .nil) (.node 216 (.of ty216) (.node 215 (.of ty215) .nil .nil) .nil)) (.node 222 (.of ty222) (.node 220 (.of ty220) (.node 219 (.of ty219) .nil .nil) .nil) (.node 224 (.of ty224) (.node 223 (.of ty223) .nil .nil) .nil))) (.node 231 (.of ty231) (.node 228 (.of ty228) (.node 227 (.of ty227) (.node 226 (.of ty226) .nil .nil) .nil) (.node 230 (.of ty230) (.node 229 (.of ty229) .nil .nil) .nil)) (.node 234 (.of ty234) (.node 233 (.of ty233) (.node 232 (.of ty232) .nil .nil) .nil) (.node 236 (.of ty236) (.node 235 (.of ty235) .nil .nil) .nil)))) (.node 249 (.of ty249) (.node 243 (.of ty243) (.node 240 (.of ty240) (.node 239 (.of ty239) (.node 238 (.of ty238) .nil .nil) .nil) (.node 242 (.of ty242) (.node 241 (.of ty241) .nil .nil) .nil)) (.node 246 (.of ty246) (.node 245 (.of ty245) (.node 244 (.of ty244) .nil .nil) .nil) (.node 248 (.of ty248) (.node 247 (.of ty247) .nil .nil) .nil))) (.node 255 (.of ty255) (.node 252 (.of ty252) (.node 251 (.of ty251) (.node 250 (.of ty250) .nil .nil) .nil) (.node 254 (.of ty254) (.node 253 (.of ty253) .nil .nil) .nil)) (.node 258 (.of ty258) (.node 257 (.of ty257) (.node 256 (.of ty256) .nil .nil) .nil) (.node 260 (.of ty260) (.node 259 (.of ty259) .nil .nil) .nil))))) (.node 286 (.of ty286) (.node 273 (.of ty273) (.node 267 (.of ty267) (.node 264 (.of ty264) (.node 263 (.of ty263) (.node 262 (.of ty262) .nil .nil) .nil) (.node 266 (.of ty266) (.node 265 (.of ty265) .nil .nil) .nil)) (.node 270 (.of ty270) (.node 269 (.of ty269) (.node 268 (.of ty268) .nil .nil) .nil) (.node 272 (.of ty272) (.node 271 (.of ty271) .nil .nil) .nil))) (.node 279 (.of ty279) (.node 276 (.of ty276) (.node 275 (.of ty275) (.node 274 (.of ty274) .nil .nil) .nil) (.node 278 (.of ty278) (.node 277 (.of ty277) .nil .nil) .nil)) (.node 282 (.of ty282) (.node 281 (.of ty281) (.node 280 (.of ty280) .nil .nil) .nil) (.node 285 (.of ty285) (.node 283 (.of ty283) .nil .nil) .nil)))) (.node 298 (.of ty298) (.node 292 (.of ty292) (.node 289 (.of ty289) (.node 288 (.of ty288) (.node 287 (.of ty287) .nil .nil) .nil) (.node 291 (.of ty291) (.node 290 (.of ty290) .nil .nil) .nil)) (.node 295 (.of ty295) (.node 294 (.of ty294) (.node 293 (.of ty293) .nil .nil) .nil) (.node 297 (.of ty297) (.node 296 (.of ty296) .nil .nil) .nil))) (.node 305 (.of ty305) (.node 302 (.of ty302) (.node 301 (.of ty301) (.node 300 (.of ty300) .nil .nil) .nil) (.node 304 (.of ty304) (.node 303 (.of ty303) .nil .nil) .nil)) (.node 308 (.of ty308) (.node 307 (.of ty307) (.node 306 (.of ty306) .nil .nil) .nil) (.node 310 (.of ty310) (.node 309 (.of ty309) .nil .nil) .nil)))))) (.node 366 (.of ty366) (.node 340 (.of ty340) (.node 326 (.of ty326) (.node 318 (.of ty318) (.node 314 (.of ty314) (.node 313 (.of ty313) (.node 312 (.of ty312) .nil .nil) .nil) (.node 317 (.of ty317) (.node 315 (.of ty315) .nil .nil) .nil)) (.node 323 (.of ty323) (.node 322 (.of ty322) (.node 320 (.of ty320) .nil .nil) .nil) (.node 325 (.of ty325) (.node 324 (.of ty324) .nil .nil) .nil))) (.node 332 (.of ty332) (.node 329 (.of ty329) (.node 328 (.of ty328) (.node 327 (.of ty327) .nil .nil) .nil) (.node 331 (.of ty331) (.node 330 (.of ty330) .nil .nil) .nil)) (.node 337 (.of ty337) (.node 335 (.of ty335) (.node 334 (.of ty334) .nil .nil) .nil) (.node 339 (.of ty339) (.node 338 (.of ty338) .nil .nil) .nil)))) (.node 353 (.of ty353) (.node 346 (.of ty346) (.node 343 (.of ty343) (.node 342 (.of ty342) (.node 341 (.of ty341) .nil .nil) .nil) (.node 345 (.of ty345) (.node 344 (.of ty344) .nil .nil) .nil)) (.node 349 (.of ty349) (.node 348 (.of ty348) (.node 347 (.of ty347) .nil .nil) .nil) (.node 352 (.of ty352) (.node 351 (.of ty351) .nil .nil) .nil))) (.node 359 (.of ty359) (.node 356 (.of ty356) (.node 355 (.of ty355) (.node 354 (.of ty354) .nil .nil) .nil) (.node 358 (.of ty358) (.node 357 (.of ty357) .nil .nil) .nil)) (.node 362 (.of ty362) (.node 361 (.of ty361) (.node 360 (.of ty360) .nil .nil) .nil) (.node 364 (.of ty364) (.node 363 (.of ty363) .nil .nil) .nil))))) (.node 391 (.of ty391) (.node 379 (.of ty379) (.node 373 (.of ty373) (.node 369 (.of ty369) (.node 368 (.of ty368) (.node 367 (.of ty367) .nil .nil) .nil) (.node 372 (.of ty372) (.node 370 (.of ty370) .nil .nil) .nil)) (.node 376 (.of ty376) (.node 375 (.of ty375) (.node 374 (.of ty374) .nil .nil) .nil) (.node 378 (.of ty378) (.node 377 (.of ty377) .nil .nil) .nil))) (.node 385 (.of ty385) (.node 382 (.of ty382) (.node 381 (.of ty381) (.node 380 (.of ty380) .nil .nil) .nil) (.node 384 (.of ty384) (.node 383 (.of ty383) .nil .nil) .nil)) (.node 388 (.of ty388) (.node 387 (.of ty387) (.node 386 (.of ty386) .nil .nil) .nil) (.node 390 (.of ty390) (.node 389 (.of ty389) .nil .nil) .nil)))) (.node 404 (.of ty404) (.node 398 (.of ty398) (.node 395 (.of ty395) (.node 394 (.of ty394) (.node 393 (.of ty393) .nil .nil) .nil) (.node 397 (.of ty397) (.node 396 (.of ty396) .nil .nil) .nil)) (.node 401 (.of ty401) (.node 400 (.of ty400) (.node 399 (.of ty399) .nil .nil) .nil) (.node 403 (.of ty403) (.node 402 (.of ty402) .nil .nil) .nil))) (.node 410 (.of ty410) (.node 407 (.of ty407) (.node 406 (.of ty406) (.node 405 (.of ty405) .nil .nil) .nil) (.node 409 (.of ty409) (.node 408 (.of ty408) .nil .nil) .nil)) (.node 413 (.of ty413) (.node 412 (.of ty412) (.node 411 (.of ty411) .nil .nil) .nil) (.node 415 (.of ty415) (.node 414 (.of ty414) .nil .nil) .nil))))))))
noncomputable def pe7 : PlE Tryz.prog := .of pl7 ty7
noncomputable def pe8 : PlE Tryz.prog := .of pl8 ty8
noncomputable def pe13 : PlE Tryz.prog := .of pl13 ty13
noncomputable def pe14 : PlE Tryz.prog := .of pl14 ty14
noncomputable def pe18 : PlE Tryz.prog := .of pl18 ty18
noncomputable def pe19 : PlE Tryz.prog := .of pl19 ty19
noncomputable def pe24 : PlE Tryz.prog := .of pl24 ty24
noncomputable def pe25 : PlE Tryz.prog := .of pl25 ty25
noncomputable def pe28 : PlE Tryz.prog := .of pl28 ty28
noncomputable def pe29 : PlE Tryz.prog := .of pl29 ty29
noncomputable def pe54 : PlE Tryz.prog := .of pl54 ty54
noncomputable def pe55 : PlE Tryz.prog := .of pl55 ty55
noncomputable def pe59 : PlE Tryz.prog := .ofC pl59 ty59 (by kernel_rfl) (by kernel_rfl) (by kernel_rfl)
noncomputable def pe60 : PlE Tryz.prog := .ofC pl60 ty60 (by kernel_rfl) (by kernel_rfl) (by kernel_rfl)
noncomputable def pe77 : PlE Tryz.prog := .ofC pl77 ty77 (by kernel_rfl) (by kernel_rfl) (by kernel_rfl)
noncomputable def pe78 : PlE Tryz.prog := .ofC pl78 ty78 (by kernel_rfl) (by kernel_rfl) (by kernel_rfl)
noncomputable def pe82 : PlE Tryz.prog := .of pl82 ty82
noncomputable def pe83 : PlE Tryz.prog := .of pl83 ty83
noncomputable def pe96 : PlE Tryz.prog := .of pl96 ty96
noncomputable def pe97 : PlE Tryz.prog := .of pl97 ty97
noncomputable def pe103 : PlE Tryz.prog := .of pl103 ty103
noncomputable def pe104 : PlE Tryz.prog := .of pl104 ty104
noncomputable def pe105 : PlE Tryz.prog := .ofC pl105 ty105 (by kernel_rfl) (by kernel_rfl) (by kernel_rfl)
noncomputable def pe106 : PlE Tryz.prog := .ofC pl106 ty106 (by kernel_rfl) (by kernel_rfl) (by kernel_rfl)
noncomputable def pe107 : PlE Tryz.prog := .of pl107 ty107
noncomputable def pe108 : PlE Tryz.prog := .of pl108 ty108
noncomputable def pe112 : PlE Tryz.prog := .of pl112 ty112
noncomputable def pe113 : PlE Tryz.prog := .of pl113 ty113
noncomputable def pe115 : PlE Tryz.prog := .of pl115 ty115
noncomputable def pe116 : PlE Tryz.prog := .of pl116 ty116
noncomputable def pe117 : PlE Tryz.prog := .of pl117 ty117
noncomputable def pe118 : PlE Tryz.prog := .of pl118 ty118
noncomputable def pe119 : PlE Tryz.prog := .ofC pl119 ty119 (by kernel_rfl) (by kernel_rfl) (by kernel_rfl)
noncomputable def pe120 : PlE Tryz.prog := .ofC pl120 ty120 (by kernel_rfl) (by kernel_rfl) (by kernel_rfl)
noncomputable def pe121 : PlE Tryz.prog := .of pl121 ty121
noncomputable def pe122 : PlE Tryz.prog := .of pl122 ty122
noncomputable def pe135 : PlE Tryz.prog := .ofC pl135 ty135 (by kernel_rfl) (by kernel_rfl) (by kernel_rfl)
noncomputable def pe136 : PlE Tryz.prog := .ofC pl136 ty136 (by kernel_rfl) (by kernel_rfl) (by kernel_rfl)
noncomputable def pe164 : PlE Tryz.prog := .of pl164 ty164
noncomputable def pe165 : PlE Tryz.prog := .of pl165 ty165
noncomputable def pe168 : PlE Tryz.prog := .of pl168 ty168
noncomputable def pe169 : PlE Tryz.prog := .of pl169 ty169
noncomputable def pe174 : PlE Tryz.prog := .of pl174 ty174
noncomputable def pe175 : PlE Tryz.prog := .of pl175 ty175
noncomputable def pe182 : PlE Tryz.prog := .of pl182 ty182
noncomputable def pe183 : PlE Tryz.prog := .of pl183 ty183
noncomputable def pe189 : PlE Tryz.prog := .of pl189 ty189
noncomputable def pe190 : PlE Tryz.prog := .of pl190 ty190
noncomputable def pe193 : PlE Tryz.prog := .of pl193 ty193
noncomputable def pe194 : PlE Tryz.prog := .of pl194 ty194
noncomputable def pe196 : PlE Tryz.prog := .ofC pl196 ty196 (by kernel_rfl) (by kernel_rfl) (by kernel_rfl)
noncomputable def pe197 : PlE Tryz.prog := .ofC pl197 ty197 (by kernel_rfl) (by kernel_rfl) (by kernel_rfl)
noncomputable def pe199 : PlE Tryz.prog := .of pl199 ty199
noncomputable def pe200 : PlE Tryz.prog := .of pl200 ty200
noncomputable def pe201 : PlE Tryz.prog := .of pl201 ty201
noncomputable def pe202 : PlE Tryz.prog := .of pl202 ty202
noncomputable def pe204 : PlE Tryz.prog := .of pl204 ty204
noncomputable def pe205 : PlE Tryz.prog := .of pl205 ty205
noncomputable def pe207 : PlE Tryz.prog := .of pl207 ty207
noncomputable def pe208 : PlE Tryz.prog := .of pl208 ty208
noncomputable def pe227 : PlE Tryz.prog := .of pl227 ty227
noncomputable def pe228 : PlE Tryz.prog := .of pl228 ty228
noncomputable def pe231 : PlE Tryz.prog := .of pl231 ty231
noncomputable def pe232 : PlE Tryz.prog := .of pl232 ty232
noncomputable def pe234 : PlE Tryz.prog := .ofC pl234 ty234 (by kernel_rfl) (by kernel_rfl) (by kernel_rfl)
noncomputable def pe235 : PlE Tryz.prog := .ofC pl235 ty235 (by kernel_rfl) (by kernel_rfl) (by kernel_rfl)
noncomputable def pe236 : PlE Tryz.prog := .ofC pl236 ty236 (by kernel_rfl) (by kernel_rfl) (by kernel_rfl)
noncomputable def pe237 : PlE Tryz.prog := .ofC pl237 ty237 (by kernel_rfl) (by kernel_rfl) (by kernel_rfl)
noncomputable def pe239 : PlE Tryz.prog := .ofC pl239 ty239 (by kernel_rfl) (by kernel_rfl) (by kernel_rfl)
noncomputable def pe240 : PlE Tryz.prog := .ofC pl240 ty240 (by kernel_rfl) (by kernel_rfl) (by kernel_rfl)
noncomputable def pe287 : PlE Tryz.prog := .of pl287 ty287
noncomputable def pe288 : PlE Tryz.prog := .of pl288 ty288
noncomputable def pe329 : PlE Tryz.prog := .of pl329 ty329
noncomputable def pe330 : PlE Tryz.prog := .of pl330 ty330
noncomputable def pe343 : PlE Tryz.prog := .of pl343 ty343
noncomputable def pe344 : PlE Tryz.prog := .of pl344 ty344
noncomputable def pe360 : PlE Tryz.prog := .of pl360 ty360
noncomputable def pe361 : PlE Tryz.prog := .of pl361 ty361
noncomputable def pe397 : PlE Tryz.prog := .of pl397 ty397
noncomputable def pe398 : PlE Tryz.prog := .of pl398 ty398
noncomputable def pe403 : PlE Tryz.prog := .of pl403 ty403
noncomputable def pe404 : PlE Tryz.prog := .of pl404 ty404
noncomputable def pe406 : PlE Tryz.prog := .of pl406 ty406
noncomputable def pe407 : PlE Tryz.prog := .of pl407 ty407
noncomputable def pe413 : PlE Tryz.prog := .of pl413 ty413
noncomputable def pe414 : PlE Tryz.prog := .of pl414 ty414
noncomputable def plT : BT (PlE Tryz.prog) := (.node 175 pe175 (.node 104 pe104 (.node 54 pe54 (.node 19 pe19 (.node 13 pe13 (.node 8 pe8 (.node 7 pe7 .nil .nil) .nil) (.node 18 pe18 (.node 14 pe14 .nil .nil) .nil)) (.node 28 pe28 (.node 25 pe25 (.node 24 pe24 .nil .nil) .nil) (.node 29 pe29 .nil .nil))) (.node 82 pe82 (.node 60 pe60 (.node 59 pe59 (.node 55 pe55 .nil .nil) .nil) (.node 78 pe78 (.node 77 pe77 .nil .nil) .nil)) (.node 97 pe97 (.node 96 pe96 (.node 83 pe83 .nil .nil) .nil) (.node 103 pe103 .nil .nil)))) (.node 119 pe119 (.node 113 pe113 (.node 107 pe107 (.node 106 pe106 (.node 105 pe105 .nil .nil) .nil) (.node 112 pe112 (.node 108 pe108 .nil .nil) .nil)) (.node 117 pe117 (.node 116 pe116 (.node 115 pe115 .nil .nil) .nil) (.node 118 pe118 .nil .nil))) (.node 164 pe164 (.node 122 pe122 (.node 121 pe121 (.node 120 pe120 .nil .nil) .nil) (.node 136 pe136 (.node 135 pe135 .nil .nil) .nil)) (.node 169 pe169 (.node 168 pe168 (.node 165 pe165 .nil .nil) .nil) (.node 174 pe174 .nil .nil))))) (.node 235 pe235 (.node 201 pe201 (.node 194 pe194 (.node 189 pe189 (.node 183 pe183 (.node 182 pe182 .nil .nil) .nil) (.node 193 pe193 (.node 190 pe190 .nil .nil) .nil)) (.node 199 pe199 (.node 197 pe197 (.node 196 pe196 .nil .nil) .nil) (.node 200 pe200 .nil .nil))) (.node 227 pe227 (.node 205 pe205 (.node 204 pe204 (.node 202 pe202 .nil .nil) .nil) (.node 208 pe208 (.node 207 pe207 .nil .nil) .nil)) (.node 232 pe232 (.node 231 pe231 (.node 228 pe228 .nil .nil) .nil) (.node 234 pe234 .nil .nil)))) (.node 360 pe360 (.node 288 pe288 (.node 239 pe239 (.node 237 pe237 (.node 236 pe236 .nil .nil) .nil) (.node 287 pe287 (.node 240 pe240 .nil .nil) .nil)) (.node 343 pe343 (.node 330 pe330 (.node 329 pe329 .nil .nil) .nil) (.node 344 pe344 .nil .nil))) (.node 404 pe404 (.node 398 pe398 (.node 397 pe397 (.node 361 pe361 .nil .nil) .nil) (.node 403 pe403 .nil .nil)) (.node 413 pe413 (.node 407 pe407 (.node 406 pe406 .nil .nil) .nil) (.node 414 pe414 .nil .nil))))))
noncomputable def fnT : BT (FnE Tryz.prog) := (.node 147 fe147 (.node 74 fe74 (.node 38 fe38 (.node 20 fe20 (.node 11 fe11 (.node 6 fe6 (.node 4 fe4 (.node 3 fe3 (.node 2 fe2 .nil .nil) .nil) (.node 5 fe5 .nil .nil)) (.node 9 fe9 (.node 8 fe8 (.node 7 fe7 .nil .nil) .nil) (.node 10 fe10 .nil .nil))) (.node 16 fe16 (.node 14 fe14 (.node 13 fe13 (.node 12 fe12 .nil .nil) .nil) (.node 15 fe15 .nil .nil)) (.node 18 fe18 (.node 17 fe17 .nil .nil) (.node 19 fe19 .nil .nil)))) (.node 29 fe29 (.node 25 fe25 (.node 23 fe23 (.node 22 fe22 (.node 21 fe21 .nil .nil) .nil) (.node 24 fe24 .nil .nil)) (.node 27 fe27 (.node 26 fe26 .nil .nil) (.node 28 fe28 .nil .nil))) (.node 34 fe34 (.node 32 fe32 (.node 31 fe31 (.node 30 fe30 .nil .nil) .nil) (.node 33 fe33 .nil .nil)) (.node 36 fe36 (.node 35 fe35 .nil .nil) (.node 37 fe37 .nil .nil))))) (.node 56 fe56 (.node 47 fe47 (.node 43 fe43 (.node 41 fe41 (.node 40 fe40 (.node 39 fe39 .nil .nil) .nil) (.node 42 fe42 .nil .nil)) (.node 45 fe45 (.node 44 fe44 .nil .nil) (.node 46 fe46 .nil .nil))) (.node 52 fe52 (.node 50 fe50 (.node 49 fe49 (.node 48 fe48 .nil .nil) .nil) (.node 51 fe51 .nil .nil)) (.node 54 fe54 (.node 53 fe53 .nil .nil) (.node 55 fe55 .nil .nil)))) (.node 65 fe65 (.node 61 fe61 (.node 59 fe59 (.node 58 fe58 (.node 57 fe57 .nil .nil) .nil) (.node 60 fe60 .nil .nil)) (.node 63 fe63 (.node 62 fe62 .nil .nil) (.node 64 fe64 .nil .nil))) (.node 70 fe70 (.node 68 fe68 (.node 67 fe67 (.node 66 fe66 .nil .nil) .nil) (.node 69 fe69 .nil .nil)) (.node 72 fe72 (.node 71 fe71 .nil .nil) (.node 73 fe73 .nil .nil)))))) (.node 111 fe111 (.node 93 fe93 (.node 84 fe84 (.node 79 fe79 (.node 77 fe77 (.node 76 fe76 (.node 75 fe75 .nil .nil) .nil) (.node 78 fe78 .nil .nil)) (.node 82 fe82 (.node 81 fe81 (.node 80 fe80 .nil .nil) .nil) (.node 83 fe83 .nil .nil))) (.node 89 fe89 (.node 87 fe87 (.node 86 fe86 (.node 85 fe85 .nil .nil) .nil) (.node 88 fe88 .nil .nil)) (.node 91 fe91 (.node 90 fe90 .nil .nil) (.node 92 fe92 .nil .nil)))) (.node 102 fe102 (.node 98 fe98 (.node 96 fe96 (.node 95 fe95 (.node 94 fe94 .nil .nil) .nil) (.node 97 fe97 .nil .nil)) (.node 100 fe100 (.node 99 fe99 .nil .nil) (.node 101 fe101 .nil .nil))) (.node 107 fe107 (.node 105 fe105 (.node 104 fe104 (.node 103 fe103 .nil .nil) .nil) (.node 106 fe106 .nil .nil)) (.node 109 fe109 (.node 108 fe108 .nil .nil) (.node 110 fe110 .nil .nil))))) (.node 129 fe129 (.node 120 fe120 (.node 116 fe116 (.node 114 fe114 (.node 113 fe113 (.node 112 fe112 .nil .nil) .nil) (.node 115 fe115 .nil .nil)) (.node 118 fe118 (.node 117 fe117 .nil .nil) (.node 119 fe119 .nil .nil))) (.node 125 fe125 (.node 123 fe123 (.node 122 fe122 (.node 121 fe121 .nil .nil) .nil) (.node 124 fe124 .nil .nil)) (.node 127 fe127 (.node 126 fe126 .nil .nil) (.node 128 fe128 .nil .nil)))) (.node 138 fe138 (.node 134 fe134 (.node 132 fe132 (.node 131 fe131 (.node 130 fe130 .nil .nil) .nil) (.node 133 fe133 .nil .nil)) (.node 136 fe136 (.node 135 fe135 .nil .nil) (.node 137 fe137 .nil .nil))) (.node 143 fe143 (.node 141 fe141 (.node 140 fe140 (.node 139 fe139 .nil .nil) .nil) (.node 142 fe142 .nil .nil)) (.node 145 fe145 (.node 144 fe144 .nil .nil) (.node 146 fe146 .nil .nil))))))) (.node 220 fe220 (.node 184 fe184 (.node 166 fe166 (.node 157 fe157 (.node 152 fe152 (.node 150 fe150 (.node 149 fe149 (.node 148 fe148 .nil .nil) .nil) (.node 151 fe151 .nil .nil)) (.node 155 fe155 (.node 154 fe154 (.node 153 fe153 .nil .nil) .nil) (.node 156 fe156 .nil .nil))) (.node 162 fe162 (.node 160 fe160 (.node 159 fe159 (.node 158 fe158 .nil .nil) .nil) (.node 161 fe161 .nil .nil)) (.node 164 fe164 (.node 163 fe163 .nil .nil) (.node 165 fe165 .nil .nil)))) (.node 175 fe175 (.node 171 fe171 (.node 169 fe169 (.node 168 fe168 (.node 167 fe167 .nil .nil) .nil) (.node 170 fe170 .nil .nil)) (.node 173 fe173 (.node 172 fe172 .nil .nil) (.node 174 fe174 .nil .nil))) (.node 180 fe180 (.node 178 fe178 (.node 177 fe177 (.node 176 fe176 .nil .nil) .nil) (.node 179 fe179 .nil .nil)) (.node 182 fe182 (.node 181 fe181 .nil .nil) (.node 183 fe183 .nil .nil))))) (.node 202 fe202 (.node 193 fe193 (.node 189 fe189 (.node 187 fe187 (.node 186 fe186 (.node 185 fe185 .nil .nil) .nil) (.node 188 fe188 .nil .nil)) (.node 191 fe191 (.node 190 fe190 .nil .nil) (.node 192 fe192 .nil .nil))) (.node 198 fe198 (.node 196 fe196 (.node 195 fe195 (.node 194 fe194 .nil .nil) .nil) (.node 197 fe197 .nil .nil)) (.node 200 fe200 (.node 199 fe199 .nil .nil) (.node 201 fe201 .nil .nil)))) (.node 211 fe211 (.node 207 fe207 (.node 205 fe205 (.node 204 fe204 (.node 203 fe203 .nil .nil) .nil) (.node 206 fe206 .nil .nil)) (.node 209 fe209 (.node 208 fe208 .nil .nil) (.node 210 fe210 .nil .nil))) (.node 216 fe216 (.node 214 fe214 (.node 213 fe213 (.node 212 fe212 .nil .nil) .nil) (.node 215 fe215 .nil .nil)) (.node 218 fe218 (.node 217 fe217 .nil .nil) (.node 219 fe219 .nil .nil)))))) (.node 258 fe258 (.node 239 fe239 (.node 230 fe230 (.node 225 fe225 (.node 223 fe223 (.node 222 fe222 (.node 221 fe221 .nil .nil) .nil) (.node 224 fe224 .nil .nil)) (.node 228 fe228 (.node 227 fe227 (.node 226 fe226 .nil .nil) .nil) (.node 229 fe229 .nil .nil))) (.node 235 fe235 (.node 233 fe233 (.node 232 fe232 (.node 231 fe231 .nil .nil) .nil) (.node 234 fe234 .nil .nil)) (.node 237 fe237 (.node 236 fe236 .nil .nil) (.node 238 fe238 .nil .nil)))) (.node 248 fe248 (.node 244 fe244 (.node 242 fe242 (.node 241 fe241 (.node 240 fe240 .nil .nil) .nil) (.node 243 fe243 .nil .nil)) (.node 246 fe246 (.node 245 fe245 .nil .nil) (.node 247 fe247 .nil .nil))) (.node 253 fe253 (.node 251 fe251 (.node 250 fe250 (.node 249 fe249 .nil .nil) .nil) (.node 252 fe252 .nil .nil)) (.node 255 fe255 (.node 254 fe254 .nil .nil) (.node 256 fe256 .nil .nil))))) (.node 276 fe276 (.node 267 fe267 (.node 263 fe263 (.node 261 fe261 (.node 260 fe260 (.node 259 fe259 .nil .nil) .nil) (.node 262 fe262 .nil .nil)) (.node 265 fe265 (.node 264 fe264 .nil .nil) (.node 266 fe266 .nil .nil))) (.node 272 fe272 (.node 270 fe270 (.node 269 fe269 (.node 268 fe268 .nil .nil) .nil) (.node 271 fe271 .nil .nil)) (.node 274 fe274 (.node 273 fe273 .nil .nil) (.node 275 fe275 .nil .nil)))) (.node 285 fe285 (.node 281 fe281 (.node 279 fe279 (.node 278 fe278 (.node 277 fe277 .nil .nil) .nil) (.node 280 fe280 .nil .nil)) (.node 283 fe283 (.node 282 fe282 .nil .nil) (.node 284 fe284 .nil .nil))) (.node 291 fe291 (.node 288 fe288 (.node 287 fe287 (.node 286 fe286 .nil .nil) .nil) (.node 290 fe290 .nil .nil)) (.node 294 fe294 (.node 292 fe292 .nil .nil) (.node 321 fe321 .nil .nil))))))))
noncomputable def xe257 : XtE Tryz.prog := .of Tryz.func257 (by kernel_rfl) (by kernel_rfl) (by kernel_rfl) (by kernel_rfl)
noncomputable def xe293 : XtE Tryz.prog := .ib Tryz.func293 (by kernel_rfl) (by kernel_rfl) (by kernel_rfl) (by kernel_rfl)
noncomputable def xtT : BT (XtE Tryz.prog) := (.node 293 xe293 (.node 257 xe257 .nil .nil) .nil)
noncomputable def ztT : BT (MkE Tryz.prog) := .nil
noncomputable def env : Env Tryz.prog := ⟨tyT, plT, fnT, xtT, ztT, mixed⟩
end Go.Proofs.YtdiimgkopknbcaaGreatDoor
