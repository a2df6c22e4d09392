/- The engine runs closed code: the statement that ranges over a function; a function's end. -/
import Derived.Test.YtmhbibfkhbaclaaGreatDoorK26
import Derived.RangeFuncLeaves
import Derived.Lib.Bytealg
import Derived.Lib.MakeNoZero
import Derived.Test.YtmhbibfkhbaclaaGreatDoorK16
namespace Go.Proofs.YtmhbibfkhbaclaaGreatDoor.E
open Go Go.RowKit
set_option linter.unusedVariables false
set_option linter.unusedSimpArgs false
variable {P : Program}
noncomputable section
theorem Sim.some_of {Y : Fr} {w0 : World} {φ0 : Phi} {F0 : FMem} {s : St} {F : FMem} {φ : Phi} {a : Act} {w : World} (hs : Sim Y w0 φ0 F0 s F φ a w) {x : Addr} (hx : F x ≠ F0 x) : ∃ u, F x = some u := by
  cases h : F x with
  | some u => exact ⟨u, rfl⟩
  | none =>
    cases h0 : F0 x with
    | none => exact absurd (h.trans h0.symm) hx
    | some u => have := hs.fle x u h0; rw [h] at this; cases this
theorem TriM.rangeFunc {C : Ctx} {f : Operand} {ps : Array Tmp} {asg body : Code} {s : St} {r : RS} {g : FuncId} {fs caps : List PV} {p : PV} {heap' : Tr RB} {n' : Nat} {log : List Nat} (K : Knows r s) (hgF : FnIs P g) (hf : s.ev f = .fn g fs caps)
    (hI : CallSC (HCtx ⟨r.n, ps, asg, body, r.tm, s.N⟩) P g (fs ++ [.yl r.n] ++ caps) r.heap (r.n + 1) p heap' n') : TriM C P none (.rangeFunc f ps asg body) (Ends .normal ⟨r.tm, heap', n', log⟩) s := by
  intro m B0 w0 φ0 F0 F φ a w ms hC hs
  have hsim := hs.sim
  have hn := K.n
  refine wpIn_rangeFunc (F := RF none) (fun fn _ => ?_)
  obtain ⟨ws, vs, hfv, g1, g2, g3, g4⟩ : ∃ ws vs : Array Value, a.eval f = .func (.func g) ws vs ∧ fs.length = ws.size ∧ caps.length = vs.size ∧ (∀ (i : Nat) (p : PV) (u : Value), fs[i]? = some p → ws[i]? = some u → VR F φ p u) ∧ (∀ (i : Nat) (p : PV) (u : Value), caps[i]? = some p → vs[i]? = some u → VR F φ p u) := by
    have hv := hsim.ev f
    rw [hf] at hv
    generalize a.eval f = u at hv
    cases hv with
    | @fn _ _ _ ws vs hm hf hn h => exact ⟨ws, vs, rfl, hm, hn, hf, h⟩
  let D := w.heap.size
  let lp := w.heap.size + 1
  let rc : Loop := { state := .ready, pending := none, fn := fn, tmps := a.tmps, params := ps, assign := asg, body := body, defers := w.heap.size }
  let W1 := (w.alloc (.deferred (some []))).alloc (.loop rc)
  let a' : Act := { a with defers := [{ target := .collected w.heap.size, args := #[] }] ++ a.defers }
  have hW1 : W1.heap.size = w.heap.size + 2 := by simp [W1]
  have hlast : W1.heap[lp]? = some (.loop rc) := by
    have := World.alloc_heap_new (w.alloc (.deferred (some []))) (.loop rc)
    rwa [World.size_alloc] at this
  have hD : W1.heap[D]? = some (.deferred (some [])) := (Below.heap_alloc _ _ _ (by simp [D])).trans (World.alloc_heap_new w _)
  have hold : ∀ k, k < w.heap.size → W1.heap[k]? = w.heap[k]? := fun k hk => (Below.heap_alloc _ _ _ (by simp; omega)).trans (Below.heap_alloc _ _ _ hk)
  let Y1 : Fr := ⟨fun k => (B0 k ∨ k ∈ ms) ∨ k = D ∨ k = lp, (D :: ms).map mark⟩
  have hb0 : ∀ k, (B0 k ∨ k ∈ ms) → k < w.heap.size := fun k hk => hsim.base_le k hk
  have hφn : φ s.n = none := hsim.fresh _ (Nat.le_refl _)
  have hle : φ.le (φ.new s.n (lp, 0)) := Phi.le_new hφn
  have hcell : ∀ {x : Addr} {u : Value}, w.cell? x = some u → W1.cell? x = some u := by
    intro x u hx
    have hlt : x.block < w.heap.size := by
      unfold World.cell? at hx
      cases hb : w.heap[x.block]? with
      | none => rw [hb] at hx; cases hx
      | some o => exact (Array.getElem?_eq_some_iff.1 hb).1
    unfold World.cell? at hx ⊢
    rw [hold _ hlt]; exact hx
  have hnew : ∀ b, b ≠ s.n → (φ.new s.n (lp, 0)) b = φ b := fun b hb => if_neg hb
  have hlive : ∀ b k, look b s.heap = some k → b ≠ s.n := fun b k hk e => by have := (hsim.ltH b k hk).1; omega
  have hsi : Sim Y1 W1 φ0 F0 ⟨s.tm, s.N, s.heap, s.lo, s.n + 1⟩ F (φ.new s.n (lp, 0)) a' W1 := by
    refine ⟨Bel.refl _ _, fun k hk => ?_, hsim.fok.grow (FMem.le_refl _) (fun x u e => ?_) (fun g j u m _ e h2 => szW_block (hold _ (cell_lt e)) h2), hsim.fle, fun x hx hy => ?_, fun b hb => ?_, Nat.le_succ_of_le hsim.lo, fun b hb => ?_, hsim.size, ?_, fun i p hp => (hsim.tm i p hp).mono (FMem.le_refl F) hle, fun b k hk => ?_, fun b b' k k' B sz sz' h1 h2 h3 h4 => ?_⟩
    · rw [hW1]
      rcases hk with hk | rfl | rfl
      · have := hb0 k hk; omega
      · simp [D]
      · simp [lp]
    · obtain ⟨q1, q2⟩ := hsim.fok x u e
      exact ⟨hcell q1, q2⟩
    · obtain ⟨u, hu⟩ := hsim.some_of hx
      have hlt : x.block < w.heap.size := cell_lt (hsim.fok x u hu).1
      rcases hy with hy | hy | hy
      · exact hsim.fnew x hx hy
      · simp only [D] at hy; omega
      · simp only [lp] at hy; omega
    · have := hsim.lo
      rw [hnew b (by have : b < s.lo := hb; omega)]; exact hsim.phi0 b hb
    · have hb : s.n + 1 ≤ b := hb
      rw [hnew b (by omega)]; exact hsim.fresh b (by omega)
    · show [_] ++ a.defers = _
      rw [hsim.defers]; rfl
    · obtain ⟨B, cs, hl⟩ := hsim.heap b k hk
      refine ⟨B, cs, hl.to (hold B hl.lt) (hle _ _ hl.at_) (fun h => ?_) (FMem.le_refl _) hle (hl.reads.mono2 (FMem.le_refl _) hle (fun x hx => absurd rfl hx))⟩
      have := hl.lt
      rcases h with h | h | h
      · exact hl.old h
      · simp only [D] at h; omega
      · simp only [lp] at h; omega
    · rw [hnew b (hlive b k h1)] at h3
      rw [hnew b' (hlive b' k' h2)] at h4
      exact hsim.inj b b' k k' B sz sz' h1 h2 h3 h4
  have hctx : HCtx ⟨r.n, ps, asg, body, r.tm, s.N⟩ Y1.b W1 (φ.new s.n (lp, 0)) F (s.n + 1) := by
    refine ⟨lp, 0, fn, a.tmps, w.heap.size, .inr (.inr rfl), hlast, ?_, by show r.n < s.n + 1; omega, fun c hc => ?_, hsim.size, fun i p hp => ?_⟩
    · show (φ.new s.n (lp, 0)) r.n = some (lp, 0)
      rw [← hn]; exact if_pos rfl
    · rw [hnew c (by omega)]; exact hsim.fresh c (by omega)
    · exact (hsim.tm i p (K.tm i p hp)).mono (FMem.le_refl F) hle
  refine ⟨lp, [{ target := .collected w.heap.size, args := #[] }], W1, { target := .fn (.func g) vs, args := ws ++ #[.func (.yield lp) #[] #[]] }, W1, g, ws ++ #[.func (.yield lp) #[] #[]] ++ vs, W1, run_enterLoop_outer _ _ _ _ _, ?_, fun _ _ => trivial, ?_, fun e => (by cases e), ?_⟩
  · simp only [resolve, hfv, Deferred.ofValue, Sem.run_pure, List.map_toArray, List.map_cons, List.map_nil]
    rfl
  · simp only [invoke, callFunc_run hgF]
  refine callsIn_RF (ro := none) ?_
  have hall : ∀ (i : Nat) (p : PV) (v : Value), (fs ++ [PV.yl r.n] ++ caps)[i]? = some p → (ws ++ #[.func (.yield lp) #[] #[]] ++ vs)[i]? = some v → VR F (φ.new s.n (lp, 0)) p v := by
    intro i p v h1 h2
    rw [List.getElem?_append] at h1
    rw [Array.getElem?_append] at h2
    split at h1
    · rename_i hi
      rw [List.length_append] at hi
      simp only [List.length_cons, List.length_nil] at hi
      rw [if_pos (by rw [Array.size_append]; simp only [List.size_toArray, List.length_cons, List.length_nil]; omega)] at h2
      rw [List.getElem?_append] at h1
      rw [Array.getElem?_append] at h2
      split at h1
      · rename_i hj
        rw [if_pos (by omega)] at h2
        exact (g3 i p v h1 h2).mono (FMem.le_refl F) hle
      · rename_i hj
        rw [if_neg (by omega)] at h2
        have e : i - fs.length = 0 := by omega
        rw [e] at h1
        rw [← g1, e] at h2
        simp at h1 h2
        subst h1; subst h2
        exact .yl (sz := 0) (by rw [← hn]; exact if_pos rfl)
    · rename_i hi
      rw [List.length_append] at hi h1
      simp only [List.length_cons, List.length_nil] at hi h1
      rw [if_neg (by rw [Array.size_append]; simp only [List.size_toArray, List.length_cons, List.length_nil]; omega), Array.size_append] at h2
      simp only [List.size_toArray, List.length_cons, List.length_nil] at h2
      rw [← g1] at h2
      exact (g4 _ p v h1 h2).mono (FMem.le_refl F) hle
  refine (hI ⟨s.tm, s.N, s.heap, s.lo, s.n + 1⟩ K.heap (by show s.n + 1 = r.n + 1; omega) Y1 W1 φ0 F0 F _ a' W1 hsi hctx _ (by simp; omega) hall).mono ?_
  rintro e w' ⟨rv, s', F', φ', rfl, q1, q2, q3, q4, q5, hs', hv⟩
  have hl' : w'.heap[lp]? = some (.loop rc) := (hs'.below.block lp (.inr (.inr rfl))).trans hlast
  have hne : ∀ k, (B0 k ∨ k ∈ ms) → k ≠ lp := fun k hk e => by have := hb0 k hk; simp only [lp] at e; omega
  refine ⟨none, _, run_endLoop hl' (by simp [rc]), ?_⟩
  refine ⟨.normal, s', F', φ', D :: ms, rfl, ⟨rfl, ⟨fun i p hp => by rw [q1]; exact K.tm i p hp, q5, q4⟩⟩, q3, q2, ?_⟩
  refine ⟨hs'.turn (.inr (.inr rfl)) (noCell_loop hl') _ (fun k hk => ?_) rfl, ?_, hs.base, fun D' hD' => ?_, fun D' hD' hb => ?_, ?_⟩
  · rcases hk with hk | hk
    · exact .inl (.inl hk)
    · rcases List.mem_cons.1 hk with rfl | hk
      · exact .inr (.inl rfl)
      · exact .inl (.inr hk)
  · refine hs.below.trans ⟨hs'.below.os, hs'.below.tape, hs'.below.output, ?_, fun k hk => ?_⟩
    · rw [World.putObj_size]; have := hs'.below.size; rw [hW1] at this; omega
    · rw [World.putObj_heap_other (hne k (.inl hk)), hs'.below.block k (.inl (.inl hk)), hold k (hb0 k (.inl hk))]
  · rcases List.mem_cons.1 hD' with rfl | hD'
    · rw [World.putObj_heap_other (by simp [D, lp]), hs'.below.block D (.inr (.inl rfl))]; exact hD
    · rw [World.putObj_heap_other (hne D' (.inr hD')), hs'.below.block D' (.inl (.inr hD')), hold D' (hb0 D' (.inr hD'))]; exact hs.marks D' hD'
  · rcases List.mem_cons.1 hD' with rfl | hD'
    · have := hb0 D (.inl hb); simp [D] at this
    · exact hs.apart D' hD' hb
  · refine List.nodup_cons.2 ⟨fun h => ?_, hs.nodup⟩
    have := hb0 D (.inr h); simp [D] at this
/-- The marks are taken, one by one. -/
theorem leaves_marks {B0 : Nat → Prop} {w0 : World} {φ0 : Phi} {F0 : FMem} {s : St} {F : FMem} {φ : Phi} {a : Act} {ds : List Deferred} {fn : Func} {n : Nat} {R : Ending → World → Prop} (hbase : ∀ k, B0 k → k < w0.heap.size)
    (hR : ∀ w, Bel B0 w0 w → Sim ⟨B0, ds⟩ w φ0 F0 s F φ a w → ∃ v, (results fn a.tmps).run P w = .ok v w ∧ R (.returned v) w) :
    ∀ (ms : List Nat) (w : World), Sim ⟨fun k => B0 k ∨ k ∈ ms, ds⟩ w φ0 F0 s F φ a w → Bel B0 w0 w → (∀ D ∈ ms, w.heap[D]? = some (.deferred (some []))) → (∀ D ∈ ms, ¬ B0 D) → ms.Nodup →
      LeavesInM Fence.wide n P fn a.tmps R (ms.map mark) .returning w
  | [], w, hs, hb, _, _, _ => hR w hb ⟨Bel.refl _ _, fun k hk => hs.base k (.inl hk), hs.fok, hs.fle, fun x hx h => hs.fnew x hx (.inl h), hs.phi0, hs.lo, hs.fresh, hs.size, hs.defers, hs.tm, fun b k hk => let ⟨B, cs, hl⟩ := hs.heap b k hk; ⟨B, cs, hl.to rfl hl.at_ (fun h => hl.old (.inl h)) (FMem.le_refl _) (Phi.le_refl _) hl.reads⟩, hs.inj⟩
  | D :: ms, w, hs, hb, hm, ha, hn => by
    have hD := hm D List.mem_cons_self
    obtain ⟨n1, n2⟩ := List.nodup_cons.1 hn
    refine ⟨by simp, .inl ⟨D, _, rfl, run_takeDeferred hD, ?_⟩⟩
    have hne : ∀ k, B0 k → k ≠ D := fun k hk e => ha D List.mem_cons_self (e ▸ hk)
    refine leaves_marks hbase hR ms _ (hs.turn (.inr List.mem_cons_self) (noCell_deferred hD) _ (fun k hk => ?_) rfl) ⟨hb.os, hb.tape, hb.output, by rw [World.putObj_size]; exact hb.size, fun k hk => by rw [World.putObj_heap_other (hne k hk)]; exact hb.block k hk⟩ (fun D' hD' => ?_) (fun D' hD' => ha D' (List.mem_cons_of_mem _ hD')) n2
    · rcases hk with hk | hk
      · exact .inl hk
      · exact .inr (List.mem_cons_of_mem _ hk)
    · rw [World.putObj_heap_other (fun (e : D' = D) => n1 (by rw [← e]; exact hD'))]
      exact hm D' (List.mem_cons_of_mem _ hD')
theorem CallSC.of {C : Ctx} {E : Env P} {f : FuncId} {fn : Func} {c : Code} {ps qs : List PV} {heap : Tr RB} {n : Nat} {r' : RS} (hf : P.funcs[f]? = some fn) (hb : fn.body = some c) (hN : Nat.ble ps.length fn.ntmps = true)
    (h : ∀ s, Knows (initR ps heap n) s → s.N = fn.ntmps → TriM C P none c (fun x s' => (x = .normal ∨ x = .ret) ∧ Knows r' s') s) (hr : ressV E r'.tm r'.heap.get fn.results.toList = some qs) : CallSC C P f ps heap n (packP qs) r'.heap r'.n := by
  intro s hk hn B0 w0 φ0 F0 F φ a w hs hC vs hlen hvs
  have hN := Nat.le_of_ble_eq_true hN
  refine (callsIn_wide (n := 0)).1 (callsIn_of_wp_marks hf hb trivial ?_)
  have hs1 : Sim ⟨fun k => B0.b k ∨ k ∈ ([] : List Nat), []⟩ w φ F ⟨initP 0 ps, fn.ntmps, s.heap, s.n, s.n⟩ F φ { tmps := vs ++ Array.replicate (fn.ntmps - vs.size) undef, defers := [] } w := by
    refine ⟨Bel.refl _ _, fun k hk => hs.base_le k (by simpa using hk), hs.fok, FMem.le_refl F, fun x hx => absurd rfl hx, fun _ _ => rfl, Nat.le_refl _, hs.fresh, by simp; omega, rfl, fun i p hp => ?_, fun b k hk => ?_, hs.inj⟩
    · rw [look_initP, if_pos (Nat.zero_le _), Nat.sub_zero] at hp
      have hi := (List.getElem?_eq_some_iff.1 hp).1
      have hi2 : i < vs.size := by omega
      rw [Array.getD_eq_getD_getElem?, Array.getElem?_append_left hi2, Array.getElem?_eq_getElem hi2]
      exact hvs i p _ hp (Array.getElem?_eq_getElem hi2)
    · obtain ⟨B, cs, hl⟩ := hs.heap b k hk
      exact ⟨B, cs, hl.to rfl hl.at_ (fun h => hl.old (by simpa using h)) (FMem.le_refl _) (Phi.le_refl _) hl.reads⟩
  have hsm : SM B0.b w φ F [] ⟨initP 0 ps, fn.ntmps, s.heap, s.n, s.n⟩ F φ { tmps := vs ++ Array.replicate (fn.ntmps - vs.size) undef, defers := [] } w := ⟨hs1, Bel.refl _ _, fun k hk => hs.base_le k hk, fun D hD => (by cases hD), fun D hD => (by cases hD), List.nodup_nil⟩
  refine wpIn_mono (h _ (initR_knows hk hn) rfl 0 B0.b w φ F F φ _ w [] hC hsm) ?_
  rintro e a' w1 ⟨x, s', F', φ', ms, rfl, ⟨hx, hq⟩, h1, h2, hs'⟩
  have hle : φ.le φ' := fun b y hb' => by
    rcases Nat.lt_or_ge b s.n with q | q
    · rw [hs'.sim.phi0 b (by rw [h1]; exact q)]; exact hb'
    · rw [hs.fresh b q] at hb'; cases hb'
  have hlo : s.n ≤ s'.n := by have := hs'.sim.lo; rw [h1] at this; exact this
  have hpost : LeavesInM Fence.wide 0 P fn a'.tmps (fun e w' => ∃ rv s' F' φ', e = .returned rv ∧ s'.tm = s.tm ∧ s'.N = s.N ∧ s'.lo = s.lo ∧ s'.n = r'.n ∧ KH r'.heap s' ∧ Sim B0 w0 φ0 F0 s' F' φ' a w' ∧ VR F' φ' (packP qs) rv) a'.defers .returning w1 := by
    rw [hs'.sim.defers]
    refine leaves_marks (ds := ms.map mark) hs'.base (fun w' hbel hsw => ?_) ms w1 hs'.sim hs'.below hs'.marks hs'.apart hs'.nodup
    obtain ⟨v, hv1, hv2⟩ := results_ok (P := P) hq hsw hr
    refine ⟨v, hv1, v, ⟨s.tm, s.N, s'.heap, s.lo, s'.n⟩, F', φ', rfl, rfl, rfl, rfl, hq.n, hq.heap, ?_, hv2⟩
    refine ⟨hs.below.trans hbel, hs.base, hsw.fok, FMem.le_trans hs.fle hsw.fle, fun x hx => ?_, fun b hb' => ?_, Nat.le_trans hs.lo hlo, hsw.fresh, hs.size, hs.defers, fun i p hp => (hs.tm i p hp).mono hsw.fle hle, fun b k hb => ?_, hsw.inj⟩
    · by_cases e1 : F' x = F x
      · exact hs.fnew x (fun e2 => hx (e1.trans e2))
      · exact hsw.fnew x e1
    · have hb2 : b < s.lo := hb'
      have := hs.lo
      rw [hsw.phi0 b (by rw [h1]; exact (show b < s.n by omega))]; exact hs.phi0 b hb2
    · obtain ⟨B, cs, hl⟩ := hsw.heap b k hb
      exact ⟨B, cs, hl.to rfl hl.at_ (fun h => hl.old h) (FMem.le_refl _) (Phi.le_refl _) hl.reads⟩
  rcases hx with rfl | rfl
  · exact hpost
  · exact hpost
end
end Go.Proofs.YtmhbibfkhbaclaaGreatDoor.E

/- The engine runs closed code: code, functions, ranges over functions, by fuel. -/
namespace Go.Proofs.YtmhbibfkhbaclaaGreatDoor.E
open Go Go.RowKit
set_option linter.unusedVariables false
set_option linter.unusedSimpArgs false
variable {P : Program}
noncomputable section
abbrev CodeF := Nat → Code → RS → Option (Ex × RS)
def seqR (self : RS → Option (Ex × RS)) : Option (Ex × RS) → Option (Ex × RS)
  | some (.normal, r) => self r
  | x => x
def blkR (id : Nat) : Option (Ex × RS) → Option (Ex × RS)
  | some (.exit j, r) => bif Nat.beq j id then some (.normal, r) else some (.exit j, r)
  | x => x
def normR : Option RS → Option (Ex × RS)
  | some r => some (.normal, r)
  | none => none
def ctxOf : Option YH → Ctx
  | none => noCtx
  | some y => HCtx y
/-- What a run says. -/
def CodeG (C : Ctx) (P : Program) (ro : Option Nat) (run : CodeF) : Prop := ∀ N c r x r', run N c r = some (x, r') → (∀ s, Knows r s → s.N = N → TriM C P ro c (Ends x r') s) ∧ Logs r r'
theorem Logs.uniq {r r' : RS} (h : Logs r r') (hr : r.log = []) : LogOK r.n r.heap r'.heap (uniqB r.n [] r'.log) ∧ r.n ≤ r'.n := by
  obtain ⟨h0, l, g1, g2⟩ := h
  refine ⟨fun b hb hnb => g2 b hb fun hl => hnb (uniqB_mem hb (.inl ?_)), h0⟩
  rw [g1]
  exact List.mem_append.2 (.inl hl)
/-! ### yield -/
abbrev YldF := Nat → List PV → Tr RB → Nat → Option CR
def yieldR (self : CodeF) (h : Option YH) : YldF := fun b args heap n => match h with
  | some y => bif Nat.beq y.b b && Nat.beq args.length y.ps.size && (y.ps.toList.all fun q => Nat.blt q y.N) then
      (match self y.N y.asg ⟨setAll y.ps.toList args y.tm, heap, n, []⟩ with
      | some (.normal, r1) => match self y.N y.body r1 with
        | some (.normal, r2) => some ⟨.t (.v (.bool true)), r2.heap, r2.n, uniqB n [] r2.log⟩
        | _ => none
      | _ => none) else none
  | none => none
def YldG (P : Program) (h : Option YH) (yld : YldF) : Prop := ∀ b args heap n x, yld b args heap n = some x → ∃ y r1 r2, h = some y ∧ y.b = b ∧ args.length = y.ps.size ∧ (y.ps.toList.all fun q => Nat.blt q y.N) = true ∧ x.p = .t (.v (.bool true)) ∧ x.heap = r2.heap ∧ x.n = r2.n ∧
  (∀ l s, Knows ⟨setAll y.ps.toList args y.tm, heap, n, []⟩ s → s.N = y.N → TriM noCtx P (some l) y.asg (Ends .normal r1) s) ∧ (∀ l s, Knows r1 s → s.N = y.N → TriM noCtx P (some l) y.body (Ends .normal r2) s) ∧ LogOK n heap x.heap x.log ∧ n ≤ x.n
theorem yieldR_ok {self : CodeF} (hs : ∀ l, CodeG noCtx P (some l) self) (h : Option YH) : YldG P h (yieldR self h) := by
  intro b args heap n x hx
  unfold yieldR at hx
  split at hx
  · rename_i y
    obtain ⟨hc, hx⟩ := bif_some hx
    simp only [Bool.and_eq_true] at hc
    split at hx
    · rename_i r1 h1
      split at hx
      · rename_i r2 h2
        cases hx
        have hl := Logs.uniq ((hs 0 _ _ _ _ _ h1).2.trans (hs 0 _ _ _ _ _ h2).2) rfl
        exact ⟨y, r1, r2, rfl, Nat.eq_of_beq_eq_true hc.1.1, Nat.eq_of_beq_eq_true hc.1.2, hc.2, rfl, rfl, rfl, fun l => (hs l _ _ _ _ _ h1).1, fun l => (hs l _ _ _ _ _ h2).1, hl.1, hl.2⟩
      · cases hx
    · cases hx
  · cases hx
section
variable {E : Env P} {call : CallF} {ops : Array Oper}
def nextY (E : Env P) (call : CallF) (yld : YldF) (ops : Array Oper) (r : RS) (o : Oper) : Option NX := match nextR E call ops r.tm r.heap r.n o with
  | some x => some x
  | none => match o.op with
    | .call ⟨.value x, xs, _⟩ => match guardR ops r.tm o with
      | some true => match evR r.tm x, allK r.tm xs.toList with
        | .yl b, some args => (yld b args r.heap r.n).map .call
        | _, _ => none
      | _ => none
    | _ => none
def isDefer : Op → Bool
  | .defer _ => true
  | _ => false
def regY (E : Env P) (call : CallF) (yld : YldF) (ops : Array Oper) (N : Nat) : List Oper → RS → Option RS
  | [], r => some r
  | o :: l, r => bif dstOK o N && !isDefer o.op then (match nextY E call yld ops r o with
      | some x => forceN x.n fun m => bif Nat.ble r.n m then regY E call yld ops N l { r.next o.dst x with n := m } else none
      | none => none) else none
theorem RS.next_n (r : RS) (d : Option Nat) (x : NX) : { r.next d x with n := x.n } = r.next d x := by cases x <;> rfl
theorem nextY_cases {yld : YldF} {r : RS} {o : Oper} {x : NX} (h : nextY E call yld ops r o = some x) : nextR E call ops r.tm r.heap r.n o = some x ∨
    ∃ y xs ts b args c, o.op = .call ⟨.value y, xs, ts⟩ ∧ guardR ops r.tm o = some true ∧ evR r.tm y = .yl b ∧ allK r.tm xs.toList = some args ∧ yld b args r.heap r.n = some c ∧ x = .call c := by
  unfold nextY at h
  split at h
  · rename_i y hy; cases h; exact .inl hy
  · split at h
    · rename_i y xs ts hop
      split at h
      · rename_i hg
        split at h
        · rename_i b args hb ha
          rw [Option.map_eq_some_iff] at h
          obtain ⟨c, hc, rfl⟩ := h
          exact .inr ⟨y, xs, ts, b, args, c, hop, hg, hb, ha, hc, rfl⟩
        · cases h
      · cases h
    · cases h
theorem regY_ok (hc : CallG P call) {yld : YldF} {h : Option YH} (hy : YldG P h yld) {ro : Option Nat} {N : Nat} : ∀ (l : List Oper) {r r' : RS} {s : St}, Knows r s → s.N = N → regY E call yld ops N l r = some r' → TriLM (ctxOf h) P ro ops l (fun s' => Knows r' s') s
  | [], r, r', s, K, hN, hr => by cases hr; exact TriLM.nil K
  | o :: l, r, r', s, K, hN, hr => by
    simp only [regY, forceN_eq, RS.next_n] at hr
    obtain ⟨hd, hr⟩ := bif_some hr
    simp only [Bool.and_eq_true, Bool.not_eq_true'] at hd
    have hnd : ∀ c, o.op ≠ .defer c := fun c e => by rw [e] at hd; cases hd.2
    split at hr
    · rename_i x hx
      obtain ⟨_, hr⟩ := bif_some hr
      have hdst := dstOK_ok hd.1
      rcases nextY_cases hx with hx | ⟨y, xs, ts, b, args, c, hop, hg, hb, ha, hcc, rfl⟩
      · have hstep := nextR_ok hc (K.kn o) (K.gkn ops o) (by rw [hN]; exact hdst) hx [] (NextS s o.dst x) fun s2 h2 => TriL.nil h2
        refine TriLM.step hnd hstep fun s2 h2 _ _ => ?_
        obtain ⟨K2, hN2⟩ := K.next h2
        exact regY_ok hc hy l K2 (hN2.trans hN) hr
      · obtain ⟨yh, r1, r2, rfl, rfl, y1, y2, y3, y4, y5, y6, y7, y8, y9⟩ := hy _ _ _ _ _ hcc
        have ha := allK_ok (s := s) (fun z hz p hp => K.ev hp) ha
        have hev : s.ev y = .yl yh.b := K.ev (by unfold evK; rw [hb])
        refine yield_step (K.gkn ops o) hg hop hev ha K.heap K.n (by rw [hN]; exact hdst) y1 y2 y6 y7 fun s2 h2 => ?_
        have h2' : NextS s o.dst (.call c) s2 := by
          show Called s o.dst c.p c.heap c.n s2
          rw [y3, y4, y5]; exact h2
        obtain ⟨K2, hN2⟩ := K.next h2'
        exact regY_ok hc hy l K2 (hN2.trans hN) hr
    · cases hr
theorem regY_log (hc : CallG P call) {yld : YldF} {h : Option YH} (hy : YldG P h yld) {N : Nat} : ∀ (l : List Oper) {r r' : RS}, regY E call yld ops N l r = some r' → Logs r r'
  | [], r, r', hr => by cases hr; exact .refl r
  | o :: l, r, r', hr => by
    simp only [regY, forceN_eq, RS.next_n] at hr
    obtain ⟨hd, hr⟩ := bif_some hr
    split at hr
    · rename_i x hx
      obtain ⟨hn, hr⟩ := bif_some hr
      rcases nextY_cases hx with hx | ⟨y, xs, ts, b, args, c, hop, hg, hb, ha, hcc, rfl⟩
      · exact Logs.trans (nextR_log hc hx hn) (regY_log hc hy l hr)
      · obtain ⟨yh, r1, r2, _, _, y1, y2, y3, y4, y5, y6, y7, y8, y9⟩ := hy _ _ _ _ _ hcc
        exact Logs.trans ⟨Nat.le_of_ble_eq_true hn, c.log, rfl, y8⟩ (regY_log hc hy l hr)
    · cases hr
def regG (E : Env P) (call : CallF) (yld : YldF) (ops : Array Oper) (draw : Bool) (N : Nat) (r : RS) : Option RS := match draw with
  | false => regY E call yld ops N ops.toList r
  | true => bif dOK ops (mkAnc ops) [] && noDefer ops then freeR E call ops (mkAnc ops) N ops.toList 0 [] [] r else none
theorem regG_ok (hc : CallG P call) {yld : YldF} {h : Option YH} (hy : YldG P h yld) {ro : Option Nat} {draw : Bool} {N id : Nat} {r r' : RS} {s : St} (K : Knows r s) (hN : s.N = N) (hr : regG E call yld ops draw N r = some r') : TriM (ctxOf h) P ro (.region id ops draw) (Ends .normal r') s := by
  cases draw with
  | false =>
    refine TriM.region ?_
    intro n B0 w0 φ0 F0 F φ a w ms hC hs Q hQ
    exact regY_ok hc hy _ K hN hr n B0 w0 φ0 F0 F φ a w ms hC hs Q fun s' F' φ' a' w' ms' hk => hQ s' F' φ' a' w' ms' ⟨rfl, hk⟩
  | true =>
    obtain ⟨hA, hr⟩ := bif_some hr
    simp only [Bool.and_eq_true] at hA
    subst hN
    intro n B0 w0 φ0 F0 F φ a w ms hC hs
    have hlt := hs.sim.ltH
    have hs2 := hs.sim.forget (l := mkH (fun b => (r.heap.get b).map RB.blk) s.n) fun b k hk => by
      rw [look_mkH] at hk
      split at hk
      · rw [Option.map_eq_some_iff] at hk
        obtain ⟨kb, h1, rfl⟩ := hk
        exact K.heap b kb h1
      · cases hk
    have hX : EX r.heap (mkH (fun b => (r.heap.get b).map RB.blk) s.n) s.n := by
      refine ⟨fun b k hk => ?_, fun b k hk => ?_⟩
      · rw [look_mkH, if_pos (hlt b _ (K.heap b k hk)).1, hk]; rfl
      · rw [look_mkH] at hk
        split at hk
        · rename_i hb
          rw [Option.map_eq_some_iff] at hk
          obtain ⟨kb, h1, rfl⟩ := hk
          exact ⟨hb, kb, h1, rfl⟩
        · cases hk
    have hob := freeR_ok (lo := s.lo) (KK := fun s' => Knows r' s') hc ops.toList (fun x hx => by cases hx) K.tm hX K.n.symm hr fun s' h => h
    have hany := regXs_any (P := P) hA.1 hob hs2 (Q := fun e a' w' => e = .normal ∧ ∃ s' F' φ', Knows r' s' ∧ s'.lo = s.lo ∧ s'.N = s.N ∧ Sim ⟨fun k => B0 k ∨ k ∈ ms, ms.map mark⟩ w φ0 F0 s' F' φ' a' w') fun s' F' φ' a' w' hk e1 e2 hs' => ⟨rfl, s', F', φ', hk, e1, e2, hs'⟩
    exact wpIn_region_any E.mixed (wpAnyIn_of hA.2 (fun e a w h => h.1) (fun a' w' ⟨_, s', F', φ', hk, e1, e2, hs'⟩ => ⟨.normal, s', F', φ', ms, rfl, ⟨rfl, hk⟩, e1, e2, hs.on hs'⟩) _ _ _ _ hany)
theorem regG_log (hc : CallG P call) {yld : YldF} {h : Option YH} (hy : YldG P h yld) {draw : Bool} {N : Nat} {r r' : RS} (hr : regG E call yld ops draw N r = some r') : Logs r r' := by
  cases draw with
  | false => exact regY_log hc hy _ hr
  | true =>
    obtain ⟨hA, hr⟩ := bif_some hr
    exact freeR_log _ hr
end
/-! ### code -/
abbrev ItF := YH → CallF
def ItG (P : Program) (it : ItF) : Prop := ∀ y f ps heap n x, it y f ps heap n = some x → CallSC (HCtx y) P f ps heap n x.p x.heap x.n ∧ FnIs P f ∧ LogOK n heap x.heap x.log ∧ n ≤ x.n
def stepC (E : Env P) (call : CallF) (yld : YldF) (it : ItF) (rd : Bool) (self : CodeF) (N : Nat) (c : Code) (r : RS) : Option (Ex × RS) := match c with
  | .skip => some (.normal, r)
  | .ret => some (.ret, r)
  | .exit id => some (.exit id, r)
  | .seq a b => seqR (self N b) (self N a r)
  | .cond c a b => match evR r.tm c with
    | .t (.v (.bool true)) => self N a r
    | .t (.v (.bool false)) => self N b r
    | _ => none
  | .block id b => blkR id (self N b r)
  | .loop b => seqR (self N (.loop b)) (self N b r)
  | .region _ ops d => normR (regG E call yld ops d N r)
  | .scope b => bif rd then none else self N b r
  | .rangeFunc f ps asg body => bif rd then none else match evR r.tm f with
    | .fn g fs caps => match it ⟨r.n, ps, asg, body, r.tm, N⟩ g (fs ++ [.yl r.n] ++ caps) r.heap (r.n + 1) with
      | some x => some (.normal, ⟨r.tm, x.heap, x.n, x.log ++ r.log⟩)
      | none => none
    | _ => none
  | _ => none
def ended : Ex → Bool
  | .exit _ => false
  | _ => true
def callF (E : Env P) (run : CodeF) : CallF := fun f ps heap n => match E.fnAt f with
  | some x => bif Nat.ble ps.length x.fn.ntmps then (match run x.fn.ntmps x.c (initR ps heap n) with
    | some (e, r) => bif ended e then (match ressV E r.tm r.heap.get x.fn.results.toList with
      | some qs => some ⟨packP qs, r.heap, r.n, uniqB n [] r.log⟩
      | none => none) else none
    | none => none) else none
  | none => none
def runC (E : Env P) : Nat → Option YH → Bool → CodeF
  | 0 => fun _ _ _ _ _ => none
  | f + 1 => fun h rd => stepC E (callF E (runC E f none false)) (yieldR (runC E f none true) h) (fun y => callF E (runC E f (some y) false)) rd (runC E f h rd)
section
variable {E : Env P}
theorem callF_ok {C : Ctx} {run : CodeF} (h : CodeG C P none run) : ∀ f ps heap n x, callF E run f ps heap n = some x → CallSC C P f ps heap n x.p x.heap x.n ∧ FnIs P f ∧ LogOK n heap x.heap x.log ∧ n ≤ x.n := by
  intro f ps heap n x hx
  unfold callF at hx
  split at hx
  · rename_i fe hf
    obtain ⟨f1, f2, f3⟩ := E.fnAt_ok hf
    obtain ⟨hN, hx⟩ := bif_some hx
    split at hx
    · rename_i e r hr
      obtain ⟨he, hx⟩ := bif_some hx
      split at hx
      · rename_i qs hq
        cases hx
        obtain ⟨h1, h2⟩ := h _ _ _ _ _ hr
        have hl := Logs.uniq h2 rfl
        refine ⟨CallSC.of f1 f2 hN (fun s hk hs => (h1 s hk hs).mono fun y s' _ _ hy => ⟨?_, hy.2⟩) hq, f3, hl.1, hl.2⟩
        obtain ⟨rfl, _⟩ := hy
        cases y with
        | normal => exact .inl rfl
        | ret => exact .inr rfl
        | exit id => cases he
      · cases hx
    · cases hx
  · cases hx
theorem stepC_ok {call : CallF} {yld : YldF} {it : ItF} {rd : Bool} {self : CodeF} {h : Option YH} {ro : Option Nat} (hro : rd = false → ro = none) (hc : CallG P call) (hy : YldG P h yld) (hi : ItG P it) (hs : CodeG (ctxOf h) P ro self) {N : Nat} {c : Code} {r r' : RS} {x : Ex} (hx : stepC E call yld it rd self N c r = some (x, r')) :
    ((∀ b, c ≠ .loop b) → ∀ s, Knows r s → s.N = N → TriM (ctxOf h) P ro c (Ends x r') s) ∧ Logs r r' := by
  have sq : ∀ {a : Code} {k : RS → Option (Ex × RS)} {K : Code}, seqR k (self N a r) = some (x, r') → (∀ r1, k r1 = some (x, r') → (∀ s, Knows r1 s → s.N = N → TriM (ctxOf h) P ro K (Ends x r') s) ∧ Logs r1 r') → (∀ s, Knows r s → s.N = N → TriM (ctxOf h) P ro (.seq a K) (Ends x r') s) ∧ Logs r r' := by
    intro a k K hq hk
    unfold seqR at hq
    split at hq
    · rename_i r1 h1
      obtain ⟨a1, a2⟩ := hs _ _ _ _ _ h1
      obtain ⟨b1, b2⟩ := hk _ hq
      refine ⟨fun s K hN => TriM.seq ((a1 s K hN).mono fun y s' _ e ⟨hy, hk'⟩ => ?_), a2.trans b2⟩
      subst hy
      exact b1 s' hk' (e.trans hN)
    · rename_i hne
      obtain ⟨a1, a2⟩ := hs _ _ _ _ _ hq
      refine ⟨fun s K hN => TriM.seq ((a1 s K hN).mono fun y s' _ e ⟨hy, hk'⟩ => ?_), a2⟩
      subst hy
      cases y with
      | normal => exact absurd hq (hne r')
      | ret => exact ⟨rfl, hk'⟩
      | exit id => exact ⟨rfl, hk'⟩
  unfold stepC at hx
  split at hx
  · cases hx; exact ⟨fun _ s K _ => TriM.skip ⟨rfl, K⟩, .refl _⟩
  · cases hx; exact ⟨fun _ s K _ => TriM.ret ⟨rfl, K⟩, .refl _⟩
  · cases hx; exact ⟨fun _ s K _ => TriM.exit ⟨rfl, K⟩, .refl _⟩
  · rename_i a b
    obtain ⟨h1, h2⟩ := sq (K := b) hx fun r1 hr1 => hs _ _ _ _ _ hr1
    exact ⟨fun _ => h1, h2⟩
  · rename_i cc a b
    split at hx
    · rename_i hcc
      obtain ⟨h1, h2⟩ := hs _ _ _ _ _ hx
      refine ⟨fun _ s K hN => TriM.cond (b := true) (K.ev ?_) (fun _ => h1 s K hN) (fun h => by cases h), h2⟩
      unfold evK; rw [hcc]
    · rename_i hcc
      obtain ⟨h1, h2⟩ := hs _ _ _ _ _ hx
      refine ⟨fun _ s K hN => TriM.cond (b := false) (K.ev ?_) (fun h => by cases h) (fun _ => h1 s K hN), h2⟩
      unfold evK; rw [hcc]
    · cases hx
  · rename_i id b
    unfold blkR at hx
    split at hx
    · rename_i j r1 h1
      obtain ⟨a1, a2⟩ := hs _ _ _ _ _ h1
      cases hj : Nat.beq j id with
      | true =>
        rw [hj] at hx; cases hx
        refine ⟨fun _ s K hN => TriM.block ((a1 s K hN).mono fun y s' _ _ ⟨hy, hk⟩ => ?_), a2⟩
        subst hy
        simp only [inBlk, Nat.eq_of_beq_eq_true hj, if_true]
        exact ⟨rfl, hk⟩
      | false =>
        rw [hj] at hx; cases hx
        refine ⟨fun _ s K hN => TriM.block ((a1 s K hN).mono fun y s' _ _ ⟨hy, hk⟩ => ?_), a2⟩
        subst hy
        simp only [inBlk, if_neg (Nat.ne_of_beq_eq_false hj)]
        exact ⟨rfl, hk⟩
    · rename_i hne
      obtain ⟨a1, a2⟩ := hs _ _ _ _ _ hx
      refine ⟨fun _ s K hN => TriM.block ((a1 s K hN).mono fun y s' _ _ ⟨hy, hk⟩ => ?_), a2⟩
      subst hy
      cases y with
      | normal => exact ⟨rfl, hk⟩
      | ret => exact ⟨rfl, hk⟩
      | exit j => exact absurd hx (hne j r')
  · rename_i b
    refine ⟨fun hb => absurd rfl (hb b), ?_⟩
    unfold seqR at hx
    split at hx
    · rename_i r1 h1
      exact (hs _ _ _ _ _ h1).2.trans (hs _ _ _ _ _ hx).2
    · exact (hs _ _ _ _ _ hx).2
  · rename_i id ops d
    unfold normR at hx
    split at hx
    · rename_i r1 h1
      cases hx
      exact ⟨fun _ s K hN => regG_ok hc hy K hN h1, regG_log hc hy h1⟩
    · cases hx
  · cases hrd : rd with
    | true => rw [hrd] at hx; cases hx
    | false =>
      rw [hrd, cond_false] at hx
      obtain rfl := hro hrd
      obtain ⟨h1, h2⟩ := hs _ _ _ _ _ hx
      exact ⟨fun _ s K hN => TriM.scope (h1 s K hN), h2⟩
  · rename_i f ps asg body
    cases hrd : rd with
    | true => rw [hrd] at hx; cases hx
    | false =>
      rw [hrd, cond_false] at hx
      obtain rfl := hro hrd
      split at hx
      · rename_i g fs caps hg
        split at hx
        · rename_i y hy'
          cases hx
          obtain ⟨i1, i2, i3, i4⟩ := hi _ _ _ _ _ _ hy'
          refine ⟨fun _ s K hN => ?_, Nat.le_of_succ_le i4, y.log, rfl, fun b hb hnb => i3 b (Nat.lt_succ_of_lt hb) hnb⟩
          subst hN
          exact TriM.rangeFunc K i2 (K.ev (by unfold evK; rw [hg])) i1
        · cases hx
      · cases hx
  · cases hx
theorem runC_all : ∀ (f : Nat) (h : Option YH) (rd : Bool) (ro : Option Nat), (rd = false → ro = none) → CodeG (ctxOf h) P ro (runC E f h rd) ∧ ∀ N b r x r', runC E f h rd N (.loop b) r = some (x, r') → ∀ s, Knows r s → s.N = N → TriR (ctxOf h) P ro b f (Ends x r') s
  | 0, h, rd, ro, _ => ⟨fun N c r x r' h => (by cases h), fun N b r x r' h => (by cases h)⟩
  | f + 1, h, rd, ro, hro => by
    obtain ⟨ih1, ih2⟩ := runC_all f h rd ro hro
    have hc : CallG P (callF E (runC E f none false)) := callF_ok (C := noCtx) (runC_all f none false none fun _ => rfl).1
    have hy : YldG P h (yieldR (runC E f none true) h) := yieldR_ok (fun l => (runC_all f none true (some l) fun e => by cases e).1) h
    have hi : ItG P (fun y => callF E (runC E f (some y) false)) := fun y => callF_ok (C := HCtx y) (runC_all f (some y) false none fun _ => rfl).1
    have key : ∀ N b r x r', runC E (f + 1) h rd N (.loop b) r = some (x, r') → ∀ s, Knows r s → s.N = N → TriR (ctxOf h) P ro b (f + 1) (Ends x r') s := by
      intro N b r x r' hr s K hN
      have hr : seqR (runC E f h rd N (.loop b)) (runC E f h rd N b r) = some (x, r') := hr
      unfold seqR at hr
      split at hr
      · rename_i r1 h1
        exact TriR.more ((ih1 _ _ _ _ _ h1).1 s K hN) fun s' K' hN' => ih2 _ _ _ _ _ hr s' K' (hN'.trans hN)
      · rename_i hne
        refine TriR.out (fun e => ?_) ((ih1 _ _ _ _ _ hr).1 s K hN)
        subst e
        exact hne r' hr
    refine ⟨fun N c r x r' hr => ?_, key⟩
    obtain ⟨h1, h2⟩ := stepC_ok hro hc hy hi ih1 hr
    refine ⟨fun s K hN => ?_, h2⟩
    by_cases hl : ∃ b, c = .loop b
    · obtain ⟨b, rfl⟩ := hl
      exact (key N b r x r' hr s K hN).loop
    · exact h1 (fun b e => hl ⟨b, e⟩) s K hN
/-- A function, run. -/
def runF (E : Env P) (fuel : Nat) : CallF := callF E (runC E fuel none false)
theorem runF_ok (fuel : Nat) : CallG P (runF E fuel) := callF_ok (C := noCtx) (runC_all fuel none false none fun _ => rfl).1
end
end
end Go.Proofs.YtmhbibfkhbaclaaGreatDoor.E

/- The engine runs closed code: what a run says of a function; tables. -/
namespace Go.Proofs.YtmhbibfkhbaclaaGreatDoor.E
open Go Go.RowKit
set_option linter.unusedVariables false
set_option linter.unusedSimpArgs false
variable {P : Program}
noncomputable section
def TyE.of {t : TypeId} {d : TypeDesc} {sz bytes : Nat} {z : Value} (h : TyIs P t d sz bytes z) : TyE P := ⟨t, d, sz, bytes, z, h⟩
def PlE.of {t : TypeId} {fs : Array Field} {pl : List (Nat × Nat)} (h : PlIs P t fs pl) {sz bytes : Nat} {z : Value} (u : TyIs P t (.struct fs) sz bytes z) : PlE P := ⟨t, fs, pl, h, u.und, false, fun h => by cases h⟩
def PlE.ofC {t : TypeId} {fs : Array Field} {pl : List (Nat × Nat)} (h : PlIs P t fs pl) {sz bytes : Nat} {z : Value} (u : TyIs P t (.struct fs) sz bytes z) (st : P.stoodInHeld t = false) (eg : P.eqGuardType P.depth t = false) (nu : (fs.toList.all fun f => decide (f.name ≠ "_")) = true) : PlE P :=
  ⟨t, fs, pl, h, u.und, true, fun _ => ⟨st, fun f hf => of_decide_eq_true (List.all_eq_true.1 nu f hf), eg⟩⟩
def bodyOf (f : Func) : Code := f.body.getD .skip
def FnE.of {f : FuncId} {fn : Func} (hf : P.funcs[f]? = some fn) (hb : fn.body = some (bodyOf fn)) (is : FnIs P f) : FnE P := ⟨f, fn, bodyOf fn, hf, hb, is⟩
def XtE.of {f : FuncId} {fn : Func} (hf : P.funcs[f]? = some fn) (hname : (fn.name == "runtime.NumGoroutine") = false) (hb : fn.body.isNone = true) (hn : Extern.findNext fn = none) (he : Extern.find fn = some Extern.AbiNoEscape.same) : XtE P :=
  ⟨f, fun ps => match ps with | [p] => some p | _ => none, fun ps q h F φ vs hl hv w => by
    split at h
    · rename_i p
      cases h
      obtain ⟨v, rfl⟩ : ∃ v, vs = #[v] := Array.size_eq_one_iff.1 hl.symm
      exact ⟨v, by rw [run_callFunc_extern hf hname hb hn he]; rfl, hv 0 q v rfl rfl⟩
    · cases h⟩
/-- Where a byte lies. -/
def XtE.ib {f : FuncId} {fn : Func} (hf : P.funcs[f]? = some fn) (hname : (fn.name == "runtime.NumGoroutine") = false) (hb : fn.body.isNone = true) (hn : Extern.findNext fn = none) (he : Extern.find fn = some Extern.BytealgIndexByte.indexByte) : XtE P :=
  ⟨f, fun ps => match ps with | [.t (.v (.string s)), .t (.v (.int .u8 c))] => some (.t (.v (.int .i64 (Lib.indexByte s.data.toList c.toNat.toUInt8)))) | _ => none, fun ps q h F φ vs hl hv w => by
    split at h
    · rename_i s c
      cases h
      obtain ⟨u, v, rfl⟩ : ∃ u v, vs = #[u, v] := by
        have h2 : vs.size = 2 := hl.symm
        match vs, h2 with
        | ⟨[u, v]⟩, _ => exact ⟨u, v, rfl⟩
      have hu := vrv (hv 0 _ u rfl rfl)
      have hw := vrv (hv 1 _ v rfl rfl)
      subst hu; subst hw
      exact ⟨_, by rw [run_callFunc_extern hf hname hb hn he, Lib.run_indexByteString]; rfl, .t (.v rfl)⟩
    · cases h⟩
/-- A new row of bytes. -/
def MkE.of {f : FuncId} {fn : Func} (hf : P.funcs[f]? = some fn) (hname : (fn.name == "runtime.NumGoroutine") = false) (hb : fn.body.isNone = true) (hn : Extern.findNext fn = none) {ps : Array TypeId} {t e : TypeId} (he : Extern.find fn = some (Extern.BytealgMakeNoZero.makeNoZero ps #[t])) (ht : P.underlying t = some (.slice e)) : MkE P :=
  ⟨f, e, fun m hm w => by
    obtain ⟨cs, h1, h2, _⟩ := Lib.run_makeNoZero (P := P) w ps t e ht m hm
    exact ⟨cs, by rw [run_callFunc_extern hf hname hb hn he, h1]; rfl, h2⟩⟩
theorem args_init {F : FMem} {φ : Phi} {vs : Array Value} {ts : List T} (h : ∀ (i : Nat) (x : T) (v : Value), ts[i]? = some x → vs[i]? = some v → TR F x v) : ∀ (i : Nat) (p : PV) (v : Value), (ts.map PV.t)[i]? = some p → vs[i]? = some v → VR F φ p v := by
  intro i p v hp hv
  rw [List.getElem?_map, Option.map_eq_some_iff] at hp
  obtain ⟨x, hx, rfl⟩ := hp
  exact .t (h i x v hx hv)
theorem Pure.ofRun {E : Env P} {fuel : Nat} {f : FuncId} {ts : List T} {t : T} {x : CR} (h : runF E fuel f (ts.map .t) .lf 0 = some x) (ht : x.p = .t t) : Pure P f ts (.one (.t t)) := by
  intro F vs w hF hn hv
  have hs : Sim ⟨(· < w.heap.size), []⟩ w (fun _ => none) F ⟨[], 0, [], 0, 0⟩ F (fun _ => none) { tmps := #[], defers := [] } w :=
    ⟨Bel.refl _ _, fun _ h => h, hF, FMem.le_refl F, fun x hx => absurd rfl hx, fun _ _ => rfl, Nat.le_refl _, fun _ _ => rfl, rfl, rfl, (fun i p hp => by cases hp), (fun b k hk => by cases hk), (fun b b' k k' B sz sz' hk => by cases hk)⟩
  obtain ⟨h1, _⟩ := runF_ok fuel _ _ _ _ _ h
  refine (h1 ⟨[], 0, [], 0, 0⟩ (fun b k hk => by cases hk) rfl _ _ _ _ _ _ _ _ hs trivial vs (by simpa using hn) (args_init hv)).mono ?_
  rintro e w' ⟨rv, s', F', φ', rfl, _, _, _, _, _, hs', hr⟩
  refine ⟨rv, F', rfl, hs'.fle, hs'.fok, fun a ha => Nat.le_of_not_lt (hs'.fnew a ha), hs'.below.below, .one (.t ?_)⟩
  rw [ht] at hr
  cases hr with
  | t h => exact h
/-- A closed function's answer. -/
def runB (E : Env P) (fuel : Nat) (f : FuncId) : Option Bool := match runF E fuel f [] .lf 0 with
  | some ⟨.t (.v (.bool b)), _, _, _⟩ => some b
  | _ => none
theorem Pure.ofB {E : Env P} {fuel : Nat} {f : FuncId} {b : Bool} (h : runB E fuel f = some b) : Pure P f [] (.one (.t (.v (.bool b)))) := by
  unfold runB at h
  split at h
  · rename_i b' h' n l hx
    cases h
    exact Pure.ofRun (ts := []) hx rfl
  · cases h
end
end Go.Proofs.YtmhbibfkhbaclaaGreatDoor.E

/- The tables of the runner: closed facts, by program. -/
namespace Go.Proofs.YtmhbibfkhbaclaaGreatDoor
open Go E
set_option maxRecDepth 100000
set_option maxHeartbeats 0
noncomputable def fe2 : FnE Tryz.prog := .of Tryz.func2 (by kernel_rfl) fn2
noncomputable def fe3 : FnE Tryz.prog := .of Tryz.func3 (by kernel_rfl) fn3
noncomputable def fe4 : FnE Tryz.prog := .of Tryz.func4 (by kernel_rfl) fn4
noncomputable def fe5 : FnE Tryz.prog := .of Tryz.func5 (by kernel_rfl) fn5
noncomputable def fe6 : FnE Tryz.prog := .of Tryz.func6 (by kernel_rfl) fn6
noncomputable def fe7 : FnE Tryz.prog := .of Tryz.func7 (by kernel_rfl) fn7
noncomputable def fe8 : FnE Tryz.prog := .of Tryz.func8 (by kernel_rfl) fn8
noncomputable def fe9 : FnE Tryz.prog := .of Tryz.func9 (by kernel_rfl) fn9
noncomputable def fe10 : FnE Tryz.prog := .of Tryz.func10 (by kernel_rfl) fn10
noncomputable def fe11 : FnE Tryz.prog := .of Tryz.func11 (by kernel_rfl) fn11
noncomputable def fe12 : FnE Tryz.prog := .of Tryz.func12 (by kernel_rfl) fn12
noncomputable def fe13 : FnE Tryz.prog := .of Tryz.func13 (by kernel_rfl) fn13
noncomputable def fe14 : FnE Tryz.prog := .of Tryz.func14 (by kernel_rfl) fn14
noncomputable def fe15 : FnE Tryz.prog := .of Tryz.func15 (by kernel_rfl) fn15
noncomputable def fe16 : FnE Tryz.prog := .of Tryz.func16 (by kernel_rfl) fn16
noncomputable def fe17 : FnE Tryz.prog := .of Tryz.func17 (by kernel_rfl) fn17
noncomputable def fe18 : FnE Tryz.prog := .of Tryz.func18 (by kernel_rfl) fn18
noncomputable def fe19 : FnE Tryz.prog := .of Tryz.func19 (by kernel_rfl) fn19
noncomputable def fe20 : FnE Tryz.prog := .of Tryz.func20 (by kernel_rfl) fn20
noncomputable def fe21 : FnE Tryz.prog := .of Tryz.func21 (by kernel_rfl) fn21
noncomputable def fe22 : FnE Tryz.prog := .of Tryz.func22 (by kernel_rfl) fn22
noncomputable def fe23 : FnE Tryz.prog := .of Tryz.func23 (by kernel_rfl) fn23
noncomputable def fe24 : FnE Tryz.prog := .of Tryz.func24 (by kernel_rfl) fn24
noncomputable def fe25 : FnE Tryz.prog := .of Tryz.func25 (by kernel_rfl) fn25
noncomputable def fe26 : FnE Tryz.prog := .of Tryz.func26 (by kernel_rfl) fn26
noncomputable def fe27 : FnE Tryz.prog := .of Tryz.func27 (by kernel_rfl) fn27
noncomputable def fe28 : FnE Tryz.prog := .of Tryz.func28 (by kernel_rfl) fn28
noncomputable def fe29 : FnE Tryz.prog := .of Tryz.func29 (by kernel_rfl) fn29
noncomputable def fe30 : FnE Tryz.prog := .of Tryz.func30 (by kernel_rfl) fn30
noncomputable def fe31 : FnE Tryz.prog := .of Tryz.func31 (by kernel_rfl) fn31
noncomputable def fe32 : FnE Tryz.prog := .of Tryz.func32 (by kernel_rfl) fn32
noncomputable def fe33 : FnE Tryz.prog := .of Tryz.func33 (by kernel_rfl) fn33
noncomputable def fe34 : FnE Tryz.prog := .of Tryz.func34 (by kernel_rfl) fn34
noncomputable def fe35 : FnE Tryz.prog := .of Tryz.func35 (by kernel_rfl) fn35
noncomputable def fe36 : FnE Tryz.prog := .of Tryz.func36 (by kernel_rfl) fn36
noncomputable def fe37 : FnE Tryz.prog := .of Tryz.func37 (by kernel_rfl) fn37
noncomputable def fe38 : FnE Tryz.prog := .of Tryz.func38 (by kernel_rfl) fn38
noncomputable def fe39 : FnE Tryz.prog := .of Tryz.func39 (by kernel_rfl) fn39
noncomputable def fe40 : FnE Tryz.prog := .of Tryz.func40 (by kernel_rfl) fn40
noncomputable def fe41 : FnE Tryz.prog := .of Tryz.func41 (by kernel_rfl) fn41
noncomputable def fe42 : FnE Tryz.prog := .of Tryz.func42 (by kernel_rfl) fn42
noncomputable def fe43 : FnE Tryz.prog := .of Tryz.func43 (by kernel_rfl) fn43
noncomputable def fe44 : FnE Tryz.prog := .of Tryz.func44 (by kernel_rfl) fn44
noncomputable def fe45 : FnE Tryz.prog := .of Tryz.func45 (by kernel_rfl) fn45
noncomputable def fe46 : FnE Tryz.prog := .of Tryz.func46 (by kernel_rfl) fn46
noncomputable def fe47 : FnE Tryz.prog := .of Tryz.func47 (by kernel_rfl) fn47
noncomputable def fe48 : FnE Tryz.prog := .of Tryz.func48 (by kernel_rfl) fn48
noncomputable def fe49 : FnE Tryz.prog := .of Tryz.func49 (by kernel_rfl) fn49
noncomputable def fe50 : FnE Tryz.prog := .of Tryz.func50 (by kernel_rfl) fn50
noncomputable def fe51 : FnE Tryz.prog := .of Tryz.func51 (by kernel_rfl) fn51
noncomputable def fe52 : FnE Tryz.prog := .of Tryz.func52 (by kernel_rfl) fn52
noncomputable def fe53 : FnE Tryz.prog := .of Tryz.func53 (by kernel_rfl) fn53
noncomputable def fe54 : FnE Tryz.prog := .of Tryz.func54 (by kernel_rfl) fn54
noncomputable def fe55 : FnE Tryz.prog := .of Tryz.func55 (by kernel_rfl) fn55
noncomputable def fe56 : FnE Tryz.prog := .of Tryz.func56 (by kernel_rfl) fn56
noncomputable def fe57 : FnE Tryz.prog := .of Tryz.func57 (by kernel_rfl) fn57
noncomputable def fe58 : FnE Tryz.prog := .of Tryz.func58 (by kernel_rfl) fn58
noncomputable def fe59 : FnE Tryz.prog := .of Tryz.func59 (by kernel_rfl) fn59
noncomputable def fe60 : FnE Tryz.prog := .of Tryz.func60 (by kernel_rfl) fn60
noncomputable def fe61 : FnE Tryz.prog := .of Tryz.func61 (by kernel_rfl) fn61
noncomputable def fe62 : FnE Tryz.prog := .of Tryz.func62 (by kernel_rfl) fn62
noncomputable def fe63 : FnE Tryz.prog := .of Tryz.func63 (by kernel_rfl) fn63
noncomputable def fe64 : FnE Tryz.prog := .of Tryz.func64 (by kernel_rfl) fn64
noncomputable def fe65 : FnE Tryz.prog := .of Tryz.func65 (by kernel_rfl) fn65
noncomputable def fe66 : FnE Tryz.prog := .of Tryz.func66 (by kernel_rfl) fn66
noncomputable def fe67 : FnE Tryz.prog := .of Tryz.func67 (by kernel_rfl) fn67
noncomputable def fe68 : FnE Tryz.prog := .of Tryz.func68 (by kernel_rfl) fn68
noncomputable def fe69 : FnE Tryz.prog := .of Tryz.func69 (by kernel_rfl) fn69
noncomputable def fe70 : FnE Tryz.prog := .of Tryz.func70 (by kernel_rfl) fn70
noncomputable def fe71 : FnE Tryz.prog := .of Tryz.func71 (by kernel_rfl) fn71
noncomputable def fe72 : FnE Tryz.prog := .of Tryz.func72 (by kernel_rfl) fn72
noncomputable def fe73 : FnE Tryz.prog := .of Tryz.func73 (by kernel_rfl) fn73
noncomputable def fe74 : FnE Tryz.prog := .of Tryz.func74 (by kernel_rfl) fn74
noncomputable def fe75 : FnE Tryz.prog := .of Tryz.func75 (by kernel_rfl) fn75
noncomputable def fe76 : FnE Tryz.prog := .of Tryz.func76 (by kernel_rfl) fn76
noncomputable def fe77 : FnE Tryz.prog := .of Tryz.func77 (by kernel_rfl) fn77
noncomputable def fe78 : FnE Tryz.prog := .of Tryz.func78 (by kernel_rfl) fn78
noncomputable def fe79 : FnE Tryz.prog := .of Tryz.func79 (by kernel_rfl) fn79
noncomputable def fe80 : FnE Tryz.prog := .of Tryz.func80 (by kernel_rfl) fn80
noncomputable def fe81 : FnE Tryz.prog := .of Tryz.func81 (by kernel_rfl) fn81
noncomputable def fe82 : FnE Tryz.prog := .of Tryz.func82 (by kernel_rfl) fn82
noncomputable def fe83 : FnE Tryz.prog := .of Tryz.func83 (by kernel_rfl) fn83
noncomputable def fe84 : FnE Tryz.prog := .of Tryz.func84 (by kernel_rfl) fn84
noncomputable def fe85 : FnE Tryz.prog := .of Tryz.func85 (by kernel_rfl) fn85
noncomputable def fe86 : FnE Tryz.prog := .of Tryz.func86 (by kernel_rfl) fn86
noncomputable def fe87 : FnE Tryz.prog := .of Tryz.func87 (by kernel_rfl) fn87
noncomputable def fe88 : FnE Tryz.prog := .of Tryz.func88 (by kernel_rfl) fn88
noncomputable def fe89 : FnE Tryz.prog := .of Tryz.func89 (by kernel_rfl) fn89
noncomputable def fe90 : FnE Tryz.prog := .of Tryz.func90 (by kernel_rfl) fn90
noncomputable def fe91 : FnE Tryz.prog := .of Tryz.func91 (by kernel_rfl) fn91
noncomputable def fe92 : FnE Tryz.prog := .of Tryz.func92 (by kernel_rfl) fn92
noncomputable def fe93 : FnE Tryz.prog := .of Tryz.func93 (by kernel_rfl) fn93
noncomputable def fe94 : FnE Tryz.prog := .of Tryz.func94 (by kernel_rfl) fn94
noncomputable def fe95 : FnE Tryz.prog := .of Tryz.func95 (by kernel_rfl) fn95
noncomputable def fe98 : FnE Tryz.prog := .of Tryz.func98 (by kernel_rfl) fn98
noncomputable def fe99 : FnE Tryz.prog := .of Tryz.func99 (by kernel_rfl) fn99
noncomputable def fe100 : FnE Tryz.prog := .of Tryz.func100 (by kernel_rfl) fn100
noncomputable def fe101 : FnE Tryz.prog := .of Tryz.func101 (by kernel_rfl) fn101
noncomputable def fe102 : FnE Tryz.prog := .of Tryz.func102 (by kernel_rfl) fn102
noncomputable def fe103 : FnE Tryz.prog := .of Tryz.func103 (by kernel_rfl) fn103
noncomputable def fe104 : FnE Tryz.prog := .of Tryz.func104 (by kernel_rfl) fn104
noncomputable def fe105 : FnE Tryz.prog := .of Tryz.func105 (by kernel_rfl) fn105
noncomputable def fe106 : FnE Tryz.prog := .of Tryz.func106 (by kernel_rfl) fn106
noncomputable def fe107 : FnE Tryz.prog := .of Tryz.func107 (by kernel_rfl) fn107
noncomputable def fe108 : FnE Tryz.prog := .of Tryz.func108 (by kernel_rfl) fn108
noncomputable def fe109 : FnE Tryz.prog := .of Tryz.func109 (by kernel_rfl) fn109
noncomputable def fe110 : FnE Tryz.prog := .of Tryz.func110 (by kernel_rfl) fn110
noncomputable def fe111 : FnE Tryz.prog := .of Tryz.func111 (by kernel_rfl) fn111
noncomputable def fe112 : FnE Tryz.prog := .of Tryz.func112 (by kernel_rfl) fn112
noncomputable def fe113 : FnE Tryz.prog := .of Tryz.func113 (by kernel_rfl) fn113
noncomputable def fe114 : FnE Tryz.prog := .of Tryz.func114 (by kernel_rfl) fn114
noncomputable def fe115 : FnE Tryz.prog := .of Tryz.func115 (by kernel_rfl) fn115
noncomputable def fe116 : FnE Tryz.prog := .of Tryz.func116 (by kernel_rfl) fn116
noncomputable def fe117 : FnE Tryz.prog := .of Tryz.func117 (by kernel_rfl) fn117
noncomputable def fe118 : FnE Tryz.prog := .of Tryz.func118 (by kernel_rfl) fn118
noncomputable def fe119 : FnE Tryz.prog := .of Tryz.func119 (by kernel_rfl) fn119
noncomputable def fe121 : FnE Tryz.prog := .of Tryz.func121 (by kernel_rfl) fn121
noncomputable def fe122 : FnE Tryz.prog := .of Tryz.func122 (by kernel_rfl) fn122
noncomputable def fe124 : FnE Tryz.prog := .of Tryz.func124 (by kernel_rfl) fn124
noncomputable def fe150 : FnE Tryz.prog := .of Tryz.func150 (by kernel_rfl) fn150
noncomputable def tyT : BT (TyE Tryz.prog) := (.node 83 (.of ty83) (.node 41 (.of ty41) (.node 19 (.of ty19) (.node 10 (.of ty10) (.node 5 (.of ty5) (.node 3 (.of ty3) (.node 2 (.of ty2) (.node 1 (.of ty1) .nil .nil) .nil) (.node 4 (.of ty4) .nil .nil)) (.node 8 (.of ty8) (.node 7 (.of ty7) (.node 6 (.of ty6) .nil .nil) .nil) (.node 9 (.of ty9) .nil .nil))) (.node 15 (.of ty15) (.node 13 (.of ty13) (.node 12 (.of ty12) (.node 11 (.of ty11) .nil .nil) .nil) (.node 14 (.of ty14) .nil .nil)) (.node 17 (.of ty17) (.node 16 (.of ty16) .nil .nil) (.node 18 (.of ty18) .nil .nil)))) (.node 29 (.of ty29) (.node 24 (.of ty24) (.node 22 (.of ty22) (.node 21 (.of ty21) (.node 20 (.of ty20) .nil .nil) .nil) (.node 23 (.of ty23) .nil .nil)) (.node 27 (.of ty27) (.node 26 (.of ty26) (.node 25 (.of ty25) .nil .nil) .nil) (.node 28 (.of ty28) .nil .nil))) (.node 35 (.of ty35) (.node 32 (.of ty32) (.node 31 (.of ty31) (.node 30 (.of ty30) .nil .nil) .nil) (.node 34 (.of ty34) .nil .nil)) (.node 38 (.of ty38) (.node 36 (.of ty36) .nil .nil) (.node 40 (.of ty40) .nil .nil))))) (.node 62 (.of ty62) (.node 53 (.of ty53) (.node 47 (.of ty47) (.node 44 (.of ty44) (.node 43 (.of ty43) (.node 42 (.of ty42) .nil .nil) .nil) (.node 46 (.of ty46) .nil .nil)) (.node 50 (.of ty50) (.node 49 (.of ty49) (.node 48 (.of ty48) .nil .nil) .nil) (.node 52 (.of ty52) .nil .nil))) (.node 58 (.of ty58) (.node 56 (.of ty56) (.node 55 (.of ty55) (.node 54 (.of ty54) .nil .nil) .nil) (.node 57 (.of ty57) .nil .nil)) (.node 60 (.of ty60) (.node 59 (.of ty59) .nil .nil) (.node 61 (.of ty61) .nil .nil)))) (.node 73 (.of ty73) (.node 68 (.of ty68) (.node 66 (.of ty66) (.node 65 (.of ty65) (.node 64 (.of ty64) .nil .nil) .nil) (.node 67 (.of ty67) .nil .nil)) (.node 71 (.of ty71) (.node 70 (.of ty70) (.node 69 (.of ty69) .nil .nil) .nil) (.node 72 (.of ty72) .nil .nil))) (.node 78 (.of ty78) (.node 76 (.of ty76) (.node 75 (.of ty75) (.node 74 (.of ty74) .nil .nil) .nil) (.node 77 (.of ty77) .nil .nil)) (.node 81 (.of ty81) (.node 80 (.of ty80) .nil .nil) (.node 82 (.of ty82) .nil .nil)))))) (.node 126 (.of ty126) (.node 105 (.of ty105) (.node 94 (.of ty94) (.node 88 (.of ty88) (.node 86 (.of ty86) (.node 85 (.of ty85) (.node 84 (.of ty84) .nil .nil) .nil) (.node 87 (.of ty87) .nil .nil)) (.node 92 (.of ty92) (.node 91 (.of ty91) (.node 89 (.of ty89) .nil .nil) .nil) (.node 93 (.of ty93) .nil .nil))) (.node 99 (.of ty99) (.node 97 (.of ty97) (.node 96 (.of ty96) (.node 95 (.of ty95) .nil .nil) .nil) (.node 98 (.of ty98) .nil .nil)) (.node 103 (.of ty103) (.node 101 (.of ty101) .nil .nil) (.node 104 (.of ty104) .nil .nil)))) (.node 117 (.of ty117) (.node 112 (.of ty112) (.node 109 (.of ty109) (.node 107 (.of ty107) (.node 106 (.of ty106) .nil .nil) .nil) (.node 111 (.of ty111) .nil .nil)) (.node 115 (.of ty115) (.node 114 (.of ty114) (.node 113 (.of ty113) .nil .nil) .nil) (.node 116 (.of ty116) .nil .nil))) (.node 122 (.of ty122) (.node 120 (.of ty120) (.node 119 (.of ty119) (.node 118 (.of ty118) .nil .nil) .nil) (.node 121 (.of ty121) .nil .nil)) (.node 124 (.of ty124) (.node 123 (.of ty123) .nil .nil) (.node 125 (.of ty125) .nil .nil))))) (.node 146 (.of ty146) (.node 137 (.of ty137) (.node 132 (.of ty132) (.node 130 (.of ty130) (.node 128 (.of ty128) (.node 127 (.of ty127) .nil .nil) .nil) (.node 131 (.of ty131) .nil .nil)) (.node 135 (.of ty135) (.node 134 (.of ty134) (.node 133 (.of ty133) .nil .nil) .nil) (.node 136 (.of ty136) .nil .nil))) (.node 142 (.of ty142) (.node 140 (.of ty140) (.node 139 (.of ty139) (.node 138 (.of ty138) .nil .nil) .nil) (.node 141 (.of ty141) .nil .nil)) (.node 144 (.of ty144) (.node 143 (.of ty143) .nil .nil) (.node 145 (.of ty145) .nil .nil)))) (.node 155 (.of ty155) (.node 151 (.of ty151) (.node 149 (.of ty149) (.node 148 (.of ty148) (.node 147 (.of ty147) .nil .nil) .nil) (.node 150 (.of ty150) .nil .nil)) (.node 153 (.of ty153) (.node 152 (.of ty152) .nil .nil) (.node 154 (.of ty154) .nil .nil))) (.node 160 (.of ty160) (.node 158 (.of ty158) (.node 157 (.of ty157) (.node 156 (.of ty156) .nil .nil) .nil) (.node 159 (.of ty159) .nil .nil)) (.node 162 (.of ty162) (.node 161 (.of ty161) .nil .nil) (.node 163 (.of ty163) .nil .nil)))))))
noncomputable def pe7 : PlE Tryz.prog := .of pl7 ty7
noncomputable def pe8 : PlE Tryz.prog := .of pl8 ty8
noncomputable def pe13 : PlE Tryz.prog := .of pl13 ty13
noncomputable def pe14 : PlE Tryz.prog := .of pl14 ty14
noncomputable def pe18 : PlE Tryz.prog := .of pl18 ty18
noncomputable def pe19 : PlE Tryz.prog := .of pl19 ty19
noncomputable def pe24 : PlE Tryz.prog := .of pl24 ty24
noncomputable def pe25 : PlE Tryz.prog := .of pl25 ty25
noncomputable def pe28 : PlE Tryz.prog := .of pl28 ty28
noncomputable def pe29 : PlE Tryz.prog := .of pl29 ty29
noncomputable def pe85 : PlE Tryz.prog := .of pl85 ty85
noncomputable def pe86 : PlE Tryz.prog := .of pl86 ty86
noncomputable def pe137 : PlE Tryz.prog := .of pl137 ty137
noncomputable def pe138 : PlE Tryz.prog := .of pl138 ty138
noncomputable def pe148 : PlE Tryz.prog := .of pl148 ty148
noncomputable def pe149 : PlE Tryz.prog := .of pl149 ty149
noncomputable def pe152 : PlE Tryz.prog := .of pl152 ty152
noncomputable def pe153 : PlE Tryz.prog := .of pl153 ty153
noncomputable def pe155 : PlE Tryz.prog := .of pl155 ty155
noncomputable def pe156 : PlE Tryz.prog := .of pl156 ty156
noncomputable def pe162 : PlE Tryz.prog := .of pl162 ty162
noncomputable def pe163 : PlE Tryz.prog := .of pl163 ty163
noncomputable def plT : BT (PlE Tryz.prog) := (.node 86 pe86 (.node 19 pe19 (.node 13 pe13 (.node 8 pe8 (.node 7 pe7 .nil .nil) .nil) (.node 18 pe18 (.node 14 pe14 .nil .nil) .nil)) (.node 28 pe28 (.node 25 pe25 (.node 24 pe24 .nil .nil) .nil) (.node 85 pe85 (.node 29 pe29 .nil .nil) .nil))) (.node 153 pe153 (.node 148 pe148 (.node 138 pe138 (.node 137 pe137 .nil .nil) .nil) (.node 152 pe152 (.node 149 pe149 .nil .nil) .nil)) (.node 162 pe162 (.node 156 pe156 (.node 155 pe155 .nil .nil) .nil) (.node 163 pe163 .nil .nil))))
noncomputable def fnT : BT (FnE Tryz.prog) := (.node 62 fe62 (.node 32 fe32 (.node 17 fe17 (.node 9 fe9 (.node 5 fe5 (.node 3 fe3 (.node 2 fe2 .nil .nil) (.node 4 fe4 .nil .nil)) (.node 7 fe7 (.node 6 fe6 .nil .nil) (.node 8 fe8 .nil .nil))) (.node 13 fe13 (.node 11 fe11 (.node 10 fe10 .nil .nil) (.node 12 fe12 .nil .nil)) (.node 15 fe15 (.node 14 fe14 .nil .nil) (.node 16 fe16 .nil .nil)))) (.node 25 fe25 (.node 21 fe21 (.node 19 fe19 (.node 18 fe18 .nil .nil) (.node 20 fe20 .nil .nil)) (.node 23 fe23 (.node 22 fe22 .nil .nil) (.node 24 fe24 .nil .nil))) (.node 29 fe29 (.node 27 fe27 (.node 26 fe26 .nil .nil) (.node 28 fe28 .nil .nil)) (.node 31 fe31 (.node 30 fe30 .nil .nil) .nil)))) (.node 47 fe47 (.node 40 fe40 (.node 36 fe36 (.node 34 fe34 (.node 33 fe33 .nil .nil) (.node 35 fe35 .nil .nil)) (.node 38 fe38 (.node 37 fe37 .nil .nil) (.node 39 fe39 .nil .nil))) (.node 44 fe44 (.node 42 fe42 (.node 41 fe41 .nil .nil) (.node 43 fe43 .nil .nil)) (.node 46 fe46 (.node 45 fe45 .nil .nil) .nil))) (.node 55 fe55 (.node 51 fe51 (.node 49 fe49 (.node 48 fe48 .nil .nil) (.node 50 fe50 .nil .nil)) (.node 53 fe53 (.node 52 fe52 .nil .nil) (.node 54 fe54 .nil .nil))) (.node 59 fe59 (.node 57 fe57 (.node 56 fe56 .nil .nil) (.node 58 fe58 .nil .nil)) (.node 61 fe61 (.node 60 fe60 .nil .nil) .nil))))) (.node 92 fe92 (.node 77 fe77 (.node 70 fe70 (.node 66 fe66 (.node 64 fe64 (.node 63 fe63 .nil .nil) (.node 65 fe65 .nil .nil)) (.node 68 fe68 (.node 67 fe67 .nil .nil) (.node 69 fe69 .nil .nil))) (.node 74 fe74 (.node 72 fe72 (.node 71 fe71 .nil .nil) (.node 73 fe73 .nil .nil)) (.node 76 fe76 (.node 75 fe75 .nil .nil) .nil))) (.node 85 fe85 (.node 81 fe81 (.node 79 fe79 (.node 78 fe78 .nil .nil) (.node 80 fe80 .nil .nil)) (.node 83 fe83 (.node 82 fe82 .nil .nil) (.node 84 fe84 .nil .nil))) (.node 89 fe89 (.node 87 fe87 (.node 86 fe86 .nil .nil) (.node 88 fe88 .nil .nil)) (.node 91 fe91 (.node 90 fe90 .nil .nil) .nil)))) (.node 109 fe109 (.node 102 fe102 (.node 98 fe98 (.node 94 fe94 (.node 93 fe93 .nil .nil) (.node 95 fe95 .nil .nil)) (.node 100 fe100 (.node 99 fe99 .nil .nil) (.node 101 fe101 .nil .nil))) (.node 106 fe106 (.node 104 fe104 (.node 103 fe103 .nil .nil) (.node 105 fe105 .nil .nil)) (.node 108 fe108 (.node 107 fe107 .nil .nil) .nil))) (.node 117 fe117 (.node 113 fe113 (.node 111 fe111 (.node 110 fe110 .nil .nil) (.node 112 fe112 .nil .nil)) (.node 115 fe115 (.node 114 fe114 .nil .nil) (.node 116 fe116 .nil .nil))) (.node 122 fe122 (.node 119 fe119 (.node 118 fe118 .nil .nil) (.node 121 fe121 .nil .nil)) (.node 150 fe150 (.node 124 fe124 .nil .nil) .nil))))))
noncomputable def xe96 : XtE Tryz.prog := .of Tryz.func96 (by kernel_rfl) (by kernel_rfl) (by kernel_rfl) (by kernel_rfl)
noncomputable def xe123 : XtE Tryz.prog := .ib Tryz.func123 (by kernel_rfl) (by kernel_rfl) (by kernel_rfl) (by kernel_rfl)
noncomputable def xtT : BT (XtE Tryz.prog) := (.node 123 xe123 (.node 96 xe96 .nil .nil) .nil)
noncomputable def ze97 : MkE Tryz.prog := .of (ps := Tryz.f97.params) (t := 84) (e := 5) Tryz.func97 (by kernel_rfl) (by kernel_rfl) (by kernel_rfl) (by kernel_rfl) (by kernel_rfl)
noncomputable def ztT : BT (MkE Tryz.prog) := (.node 97 ze97 .nil .nil)
noncomputable def env : Env Tryz.prog := ⟨tyT, plT, fnT, xtT, ztT, mixed⟩
end Go.Proofs.YtmhbibfkhbaclaaGreatDoor
