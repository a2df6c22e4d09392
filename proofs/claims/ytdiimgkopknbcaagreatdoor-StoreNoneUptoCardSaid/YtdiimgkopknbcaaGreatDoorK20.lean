/- A walk, and a run, within one function: its head is walked through, its rest is run. -/
import Derived.Test.YtdiimgkopknbcaaGreatDoorK18
import Derived.Test.YtdiimgkopknbcaaGreatDoorK13
namespace Go.Proofs.YtdiimgkopknbcaaGreatDoor.E
open Go Go.RowKit
set_option linter.unusedVariables false
set_option linter.unusedSimpArgs false
variable {P : Program}
noncomputable section
theorem TriM.ofTri {C : Ctx} {c : Code} {Q : Ex → St → Prop} {s : St} (h : Tri P c Q s) : TriM C P none c Q s := by
  intro n B0 w0 φ0 F0 F φ a w ms hC hs
  refine wpIn_wide.2 (wp_mono (h _ _ _ _ _ _ _ _ hs.sim) ?_)
  rintro e a' w' ⟨x, s', F', φ', he, hq, h1, h2, hs'⟩
  exact ⟨x, s', F', φ', ms, he, hq, h1, h2, hs.on hs'⟩
/-- The end: a result that is known. -/
def Fin1 (t : Tmp) (y : T) : Ex → St → Prop := fun x s => (x = .normal ∨ x = .ret) ∧ look t s.tm = some (.t y)
def runO (E : Env P) (fuel N : Nat) (c : Code) (r : RS) (t : Tmp) : Option PV := match runC E fuel none false N c r with
  | some (x, r') => bif ended x then r'.tm.get t else none
  | none => none
theorem TriM.ofRun {E : Env P} {fuel : Nat} {c : Code} {r : RS} {s : St} {t : Tmp} {y : T} (h : runO E fuel s.N c r t = some (.t y)) (K : Knows r s) : TriM noCtx P none c (Fin1 t y) s := by
  unfold runO at h
  split at h
  · rename_i x r' hr
    obtain ⟨he, ht⟩ := bif_some h
    refine TriM.mono (((runC_all fuel none false none fun _ => rfl).1 _ _ _ _ _ hr).1 s K rfl) ?_
    rintro e s' _ _ ⟨rfl, hk⟩
    refine ⟨?_, hk.tm _ _ ht⟩
    cases e with
    | normal => exact .inl rfl
    | ret => exact .inr rfl
    | exit id => cases he
  · cases h
def trOf {α : Type} : List (Nat × α) → Tr α
  | [] => .lf
  | (d, p) :: l => (trOf l).set d p
theorem trOf_get {α : Type} : ∀ (l : List (Nat × α)) (i : Nat), (trOf l).get i = look i l
  | [], i => rfl
  | (d, p) :: l, i => by
    simp only [trOf, Tr.get_set, look, trOf_get l i]
theorem Pure.ofM {E : Env P} {f : FuncId} {fn : Func} {c : Code} {ts : List T} {t : Tmp} {y : T} (hf : P.funcs[f]? = some fn) (hb : fn.body = some c) (hN : Nat.ble ts.length fn.ntmps = true) (hr : fn.results = #[.tmp t])
    (h : TriM noCtx P none c (Fin1 t y) ⟨initP 0 (ts.map .t), fn.ntmps, [], 0, 0⟩) : Pure P f ts (.one (.t y)) := by
  intro F vs w hF hlen hv
  have hN := Nat.le_of_ble_eq_true hN
  have hvs := args_init (φ := fun _ => none) hv
  refine (callsIn_wide (n := 0)).1 (callsIn_of_wp_marks hf hb trivial ?_)
  have hs1 : Sim ⟨fun k => (k < w.heap.size) ∨ k ∈ ([] : List Nat), []⟩ w (fun _ => none) F ⟨initP 0 (ts.map .t), fn.ntmps, [], 0, 0⟩ F (fun _ => none) { tmps := vs ++ Array.replicate (fn.ntmps - vs.size) undef, defers := [] } w := by
    refine ⟨Bel.refl _ _, fun k hk => by simpa using hk, hF, FMem.le_refl F, fun x hx => absurd rfl hx, fun _ _ => rfl, Nat.le_refl _, fun _ _ => rfl, by simp; omega, rfl, fun i p hp => ?_, (fun b k hk => by cases hk), (fun b b' k k' B sz sz' hk => by cases hk)⟩
    rw [look_initP, if_pos (Nat.zero_le _), Nat.sub_zero] at hp
    have hi := (List.getElem?_eq_some_iff.1 hp).1
    rw [List.length_map] at hi
    have hi2 : i < vs.size := by omega
    rw [Array.getD_eq_getD_getElem?, Array.getElem?_append_left hi2, Array.getElem?_eq_getElem hi2]
    exact hvs i p _ hp (Array.getElem?_eq_getElem hi2)
  have hsm : SM (fun k => k < w.heap.size) w (fun _ => none) F [] ⟨initP 0 (ts.map .t), fn.ntmps, [], 0, 0⟩ F (fun _ => none) { tmps := vs ++ Array.replicate (fn.ntmps - vs.size) undef, defers := [] } w := ⟨hs1, Bel.refl _ _, fun k hk => hk, fun D hD => (by cases hD), fun D hD => (by cases hD), List.nodup_nil⟩
  refine wpIn_mono (h 0 _ w (fun _ => none) F F (fun _ => none) _ w [] trivial hsm) ?_
  rintro e a' w1 ⟨x, s', F', φ', ms, rfl, ⟨hx, hq⟩, h1, h2, hs'⟩
  have hpost : LeavesInM Fence.wide 0 P fn a'.tmps (fun e w' => ∃ rv F', e = .returned rv ∧ F.le F' ∧ FOK F' w' ∧ (∀ a, F' a ≠ F a → w.heap.size ≤ a.block) ∧ Below w.heap.size w w' ∧ RR F' w.heap.size w' (.one (.t y)) rv) a'.defers .returning w1 := by
    rw [hs'.sim.defers]
    refine leaves_marks (ds := ms.map mark) hs'.base (fun w' hbel hsw => ?_) ms w1 hs'.sim hs'.below hs'.marks hs'.apart hs'.nodup
    have K : Knows ⟨Tr.lf.set t (.t y), .lf, s'.n, []⟩ s' := by
      refine ⟨fun i p hp => ?_, fun b k hk => ?_, rfl⟩
      · rw [Tr.get_set] at hp
        split at hp
        · rename_i e; subst e; cases hp; exact hq
        · cases hp
      · cases hk
    obtain ⟨v, hv1, hv2⟩ := results_ok (P := P) (E := E) (ps := [.t y]) K hsw (fn := fn) (by rw [hr]; simp [ressV, resV, evK, evR, Tr.get_set])
    refine ⟨v, hv1, v, F', rfl, hsw.fle, hsw.fok, fun a ha => Nat.le_of_not_lt (hsw.fnew a ha), hbel.below, .one (.t ?_)⟩
    cases hv2 with
    | t h => exact h
  rcases hx with rfl | rfl
  · exact hpost
  · exact hpost
end
end Go.Proofs.YtdiimgkopknbcaaGreatDoor.E

/- A run in pieces: what is needed of a state is kept, all else is forgotten. -/
namespace Go.Proofs.YtdiimgkopknbcaaGreatDoor.E
open Go Go.RowKit
set_option linter.unusedVariables false
set_option linter.unusedSimpArgs false
variable {P : Program}
noncomputable section
def runK (E : Env P) (fuel N : Nat) : Nat → Code → RS → Option RS
  | 0, _, r => some r
  | k + 1, .seq a b, r => match runC E fuel none false N a r with
    | some (.normal, r1) => runK E fuel N k b r1
    | _ => none
  | _, _, _ => none
def dropC : Nat → Code → Code
  | 0, c => c
  | k + 1, .seq _ b => dropC k b
  | _, c => c
theorem TriM.steps {E : Env P} {fuel N : Nat} {Q : Ex → St → Prop} : ∀ (k : Nat) (c : Code) (r r1 : RS), runK E fuel N k c r = some r1 → ∀ s : St, Knows r s → s.N = N → (∀ s' : St, Knows r1 s' → s'.N = N → s'.lo = s.lo → TriM noCtx P none (dropC k c) Q s') → TriM noCtx P none c Q s
  | 0, c, r, r1, h, s, K, hN, hQ => by cases h; exact hQ s K hN rfl
  | k + 1, c, r, r1, h, s, K, hN, hQ => by
    cases c with
    | seq a b =>
      simp only [runK] at h
      split at h
      · rename_i r2 hr
        refine TriM.seq (TriM.mono (((runC_all fuel none false none fun _ => rfl).1 _ _ _ _ _ hr).1 s K hN) ?_)
        rintro x s' hlo hN' ⟨rfl, hk⟩
        exact TriM.steps k b r2 r1 h s' hk (hN'.trans hN) fun s2 K2 hN2 hlo2 => hQ s2 K2 hN2 (hlo2.trans hlo)
      · cases h
    | _ => simp [runK] at h
theorem TriM.sub {c : Code} {Q : Ex → St → Prop} {s s2 : St} (hs : Sub s2 s) (h : TriM noCtx P none c Q s2) : TriM noCtx P none c Q s := by
  intro n B0 w0 φ0 F0 F φ a w ms hC hsm
  obtain ⟨φ', h'⟩ := hsm.sim.sub hs
  refine wpIn_mono (h n B0 w0 φ0 F0 F φ' a w ms trivial { hsm with sim := h' }) ?_
  rintro e a' w' ⟨x, s', F', φ'', ms', he, hq, h1, h2, hs'⟩
  exact ⟨x, s', F', φ'', ms', he, hq, h1.trans hs.lo, h2.trans hs.N, hs'⟩
theorem look_memT {α : Type} : ∀ {l : List (Nat × α)} {i : Nat} {p : α}, look i l = some p → (i, p) ∈ l
  | [], i, p, h => by cases h
  | (d, q) :: l, i, p, h => by
    simp only [look] at h
    split at h
    · rename_i e; subst e; cases h; exact List.mem_cons_self
    · exact List.mem_cons_of_mem _ (look_memT h)
theorem map_eqAt {α β : Type} {l : List α} {f g : α → β} (h : l.map f = l.map g) {x : α} (hx : x ∈ l) : f x = g x := by
  obtain ⟨i, hi, rfl⟩ := List.mem_iff_getElem.1 hx
  have := congrArg (·[i]?) h
  simpa [hi] using this
/-- Objects with their types, as they are known to a run. -/
abbrev HpT := List (Nat × List PV × Option TypeId)
def rbsT (l : HpT) : List (Nat × RB) := l.map fun x => (x.1, RB.new x.2.1 x.2.2)
def blksT (l : HpT) : List (Nat × Blk) := l.map fun x => (x.1, .obj x.2.1 x.2.2)
theorem look_rbsT : ∀ (l : HpT) (b : Nat) (k : RB), look b (rbsT l) = some k → look b (blksT l) = some k.blk
  | [], b, k, h => by cases h
  | (c, ps, ty) :: l, b, k, h => by
    simp only [rbsT, blksT, List.map_cons, look] at h ⊢
    by_cases e : b = c
    · subst e
      simp only [if_true] at h ⊢
      cases h
      rw [RB.new_blk]
    · simp only [e, if_false] at h ⊢
      first
        | exact look_rbsT l b k h
        | (simp only [Ne.symm e, if_false] at h ⊢; exact look_rbsT l b k h)
theorem knows_ofT (tm : List (Nat × PV)) (l : HpT) (N lo n : Nat) : Knows ⟨trOf tm, trOf (rbsT l), n, []⟩ ⟨tm, N, blksT l, lo, n⟩ :=
  ⟨fun i p h => by rw [trOf_get] at h; exact h, fun b k h => look_rbsT l b k (by rw [trOf_get] at h; exact h), rfl⟩
/-- What is kept of a run's state. -/
def keptR (tm : List (Nat × PV)) (hp : HpT) (m : Nat) (r : RS) : List (Option PV) × List (Option Blk) × Bool :=
  (tm.map fun x => r.tm.get x.1, hp.map fun x => (r.heap.get x.1).map RB.blk, Nat.ble m r.n)
theorem TriM.cut {E : Env P} {fuel : Nat} {Q : Ex → St → Prop} {c : Code} {s : St} {r : RS} (k : Nat) (tm : List (Nat × PV)) (hp : HpT) (m : Nat)
    (h : (runK E fuel s.N k c r).map (keptR tm hp m) = some (tm.map fun x => some x.2, hp.map fun x => some (.obj x.2.1 x.2.2), true)) (K : Knows r s) (hlo : s.lo ≤ m) (h1 : ltT m tm = true) (h2 : ltB m (blksT hp) = true)
    (hQ : TriM noCtx P none (dropC k c) Q ⟨tm, s.N, blksT hp, s.lo, m⟩) : TriM noCtx P none c Q s := by
  rw [Option.map_eq_some_iff] at h
  obtain ⟨r1, hr, hk⟩ := h
  simp only [keptR, Prod.mk.injEq] at hk
  obtain ⟨k1, k2, k3⟩ := hk
  refine TriM.steps k c r r1 hr s K rfl fun s' K' hN' hlo' => TriM.sub (s2 := ⟨tm, s.N, blksT hp, s.lo, m⟩) ⟨hN'.symm, hlo'.symm, ?_, hlo, fun i p hp' => ?_, fun b k hb => ?_⟩ hQ
  · rw [K'.n]; exact Nat.le_of_ble_eq_true k3
  · have := map_eqAt k1 (look_memT hp')
    exact ⟨K'.tm i p this, .inr (ltT_look h1 i p hp')⟩
  · have hb2 := look_memT hb
    obtain ⟨y, hy, he⟩ := List.mem_map.1 hb2
    obtain ⟨rfl, rfl⟩ := Prod.mk.inj he
    have := map_eqAt k2 hy
    rw [Option.map_eq_some_iff] at this
    obtain ⟨rb, hg, hrb⟩ := this
    have h3 := K'.heap _ _ hg
    rw [hrb] at h3
    exact ⟨h3, .inr (ltB_look h2 _ _ hb)⟩
end
end Go.Proofs.YtdiimgkopknbcaaGreatDoor.E
