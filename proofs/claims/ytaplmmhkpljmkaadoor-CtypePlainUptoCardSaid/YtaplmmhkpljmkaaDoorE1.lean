/- The engine's rules for code and for lists of operations. -/
import Derived.Test.YtaplmmhkpljmkaaDoorE0
namespace Go.Proofs.YtaplmmhkpljmkaaDoor.E
set_option linter.unusedVariables false
set_option linter.unusedSimpArgs false
open Go Go.RowKit

variable {P : Program}

theorem Tri.mono {c : Code} {Q Q' : Ex → St → Prop} {s : St} (h : Tri P c Q s) (hQ : ∀ x s', s'.lo = s.lo → s'.N = s.N → Q x s' → Q' x s') : Tri P c Q' s := by
  intro B0 w0 φ0 F0 F φ a w hs
  refine wp_mono (h B0 w0 φ0 F0 F φ a w hs) ?_
  rintro e a' w' ⟨x, s', F', φ', he, hq, h1, h2, hs'⟩
  exact ⟨x, s', F', φ', he, hQ _ _ h1 h2 hq, h1, h2, hs'⟩
theorem TriL.mono {ops : Array Oper} {l : List Oper} {K K' : St → Prop} {s : St} (h : TriL P ops l K s) (hK : ∀ s', s'.lo = s.lo → s'.N = s.N → K s' → K' s') : TriL P ops l K' s := by
  intro B0 w0 φ0 F0 F φ a w hs Q hQ
  exact h B0 w0 φ0 F0 F φ a w hs Q (fun s' F' φ' a' w' hk h1 h2 hs' => hQ s' F' φ' a' w' (hK s' h1 h2 hk) h1 h2 hs')

/-- Behind a piece of code. -/
def after (Q : Ex → St → Prop) (K : St → Prop) : Ex → St → Prop
  | .normal, s => K s
  | x, s => Q x s
def inBlk (id : Nat) (Q : Ex → St → Prop) : Ex → St → Prop
  | .exit j, s => if j = id then Q .normal s else Q (.exit j) s
  | x, s => Q x s

theorem Tri.skip {Q : Ex → St → Prop} {s : St} (h : Q .normal s) : Tri P .skip Q s := by
  intro B0 w0 φ0 F0 F φ a w hs
  exact wp_skip ⟨.normal, s, F, φ, rfl, h, rfl, rfl, hs⟩
theorem Tri.ret {Q : Ex → St → Prop} {s : St} (h : Q .ret s) : Tri P .ret Q s := by
  intro B0 w0 φ0 F0 F φ a w hs
  exact wp_ret ⟨.ret, s, F, φ, rfl, h, rfl, rfl, hs⟩
theorem Tri.exit {id : Nat} {Q : Ex → St → Prop} {s : St} (h : Q (.exit id) s) : Tri P (.exit id) Q s := by
  intro B0 w0 φ0 F0 F φ a w hs
  exact wp_exit ⟨.exit id, s, F, φ, rfl, h, rfl, rfl, hs⟩
theorem Tri.seq {x y : Code} {Q : Ex → St → Prop} {s : St} (h : Tri P x (after Q (Tri P y Q)) s) : Tri P (.seq x y) Q s := by
  intro B0 w0 φ0 F0 F φ a w hs
  refine wp_seq (wp_mono (h B0 w0 φ0 F0 F φ a w hs) ?_)
  rintro e a' w' ⟨x, s', F', φ', rfl, hq, h1, h2, hs'⟩
  cases x with
  | normal =>
    refine wp_mono (hq B0 w0 φ0 F0 F' φ' a' w' hs') ?_
    rintro e a2 w2 ⟨x, s2, F2, φ2, he, hq2, h12, h22, hs2⟩
    exact ⟨x, s2, F2, φ2, he, hq2, h12.trans h1, h22.trans h2, hs2⟩
  | ret => exact ⟨.ret, s', F', φ', rfl, hq, h1, h2, hs'⟩
  | exit id => exact ⟨.exit id, s', F', φ', rfl, hq, h1, h2, hs'⟩
theorem Tri.block {id : Nat} {c : Code} {Q : Ex → St → Prop} {s : St} (h : Tri P c (inBlk id Q) s) : Tri P (.block id c) Q s := by
  intro B0 w0 φ0 F0 F φ a w hs
  refine wp_block (wp_mono (h B0 w0 φ0 F0 F φ a w hs) ?_)
  rintro e a' w' ⟨x, s', F', φ', rfl, hq, h1, h2, hs'⟩
  cases x with
  | normal => exact ⟨.normal, s', F', φ', rfl, hq, h1, h2, hs'⟩
  | ret => exact ⟨.ret, s', F', φ', rfl, hq, h1, h2, hs'⟩
  | exit j =>
    simp only [Ex.real, Exit.inBlock]
    by_cases hj : j = id
    · rw [if_pos hj]
      simp only [inBlk, if_pos hj] at hq
      exact ⟨.normal, s', F', φ', rfl, hq, h1, h2, hs'⟩
    · rw [if_neg hj]
      simp only [inBlk, if_neg hj] at hq
      exact ⟨.exit j, s', F', φ', rfl, hq, h1, h2, hs'⟩

/-! ### less is known -/
mutual
/-- All numbers of blocks in a value are below m. -/
def PV.lt (m : Nat) : PV → Bool
  | .ref b _ _ _ _ => Nat.blt b m
  | .ptr b _ => Nat.blt b m
  | .rptr b _ _ _ => Nat.blt b m
  | .agg ps => PV.lts m ps
  | .tup ps => PV.lts m ps
  | .fn _ ps => PV.lts m ps
  | .cond _ _ p => PV.lt m p
  | _ => true
def PV.lts (m : Nat) : List PV → Bool
  | [] => true
  | p :: ps => PV.lt m p && PV.lts m ps
end
theorem PV.lts_get {m : Nat} {ps : List PV} (h : PV.lts m ps = true) : ∀ (i : Nat) (p : PV), ps[i]? = some p → PV.lt m p = true := by
  induction ps with
  | nil => intro i p hp; simp at hp
  | cons q qs ih =>
    intro i p hp
    simp only [PV.lts, Bool.and_eq_true] at h
    cases i with
    | zero => simp at hp; subst hp; exact h.1
    | succ i => exact ih h.2 i p (by simpa using hp)
def Phi.cut (φ : Phi) (m : Nat) : Phi := fun b => if b < m then φ b else none
theorem VR.cut {F : FMem} {φ : Phi} {p : PV} {v : Value} (h : VR F φ p v) {m : Nat} : PV.lt m p = true → VR F (φ.cut m) p v := by
  induction h with
  | undef v => intro _; exact .undef v
  | t h => intro _; exact .t h
  | ref hb h1 h2 h3 =>
    intro hl
    simp only [PV.lt, Nat.blt_eq] at hl
    exact .ref (by rw [Phi.cut, if_pos hl]; exact hb) h1 h2 h3
  | ptr hb =>
    intro hl
    simp only [PV.lt, Nat.blt_eq] at hl
    exact .ptr (by rw [Phi.cut, if_pos hl]; exact hb)
  | rptr hb =>
    intro hl
    simp only [PV.lt, Nat.blt_eq] at hl
    exact .rptr (by rw [Phi.cut, if_pos hl]; exact hb)
  | eptr us h => intro _; exact .eptr us h
  | clip us h => intro _; exact .clip us h
  | agg hn h ih => intro hl; exact .agg hn (fun i p u h1 h2 => ih i p u h1 h2 (PV.lts_get (by simpa [PV.lt] using hl) i p h1))
  | tup hn h ih => intro hl; exact .tup hn (fun i p u h1 h2 => ih i p u h1 h2 (PV.lts_get (by simpa [PV.lt] using hl) i p h1))
  | fn hn h ih => intro hl; exact .fn hn (fun i p u h1 h2 => ih i p u h1 h2 (PV.lts_get (by simpa [PV.lt] using hl) i p h1))
  | cond h hn ih => intro hl; exact .cond (fun e => ih e (by simpa [PV.lt] using hl)) hn

def Blk.lt (m : Nat) : Blk → Bool
  | .obj cells => PV.lts m cells
  | .row .. => true

/-- s2 knows no more than s. -/
structure Sub (s2 s : St) : Prop where
  N : s2.N = s.N
  lo : s2.lo = s.lo
  n : s2.n ≤ s.n
  lon : s2.lo ≤ s2.n
  tm : ∀ i p, look i s2.tm = some p → look i s.tm = some p ∧ (s2.n = s.n ∨ PV.lt s2.n p = true)
  heap : ∀ b k, look b s2.heap = some k → look b s.heap = some k ∧ (s2.n = s.n ∨ (b < s2.n ∧ Blk.lt s2.n k = true))

theorem Sim.sub {B0 : Nat} {w0 : World} {φ0 : Phi} {F0 : FMem} {s s2 : St} {F : FMem} {φ : Phi} {a : Act} {w : World} (h : Sim B0 w0 φ0 F0 s F φ a w) (hs : Sub s2 s) :
    ∃ φ', Sim B0 w0 φ0 F0 s2 F φ' a w := by
  by_cases hn : s2.n = s.n
  · exact ⟨φ, { below := h.below, base := h.base, fok := h.fok, fle := h.fle, fnew := h.fnew, phi0 := fun b hb => h.phi0 b (by rw [← hs.lo]; exact hb), lo := hs.lon, fresh := fun b hb => h.fresh b (by omega),
                size := h.size.trans hs.N.symm, defers := h.defers, tm := fun i p hp => h.tm i p (hs.tm i p hp).1, heap := fun b k hk => h.heap b k (hs.heap b k hk).1,
                inj := fun b b' k k' B sz sz' h1 h2 h3 h4 => h.inj b b' k k' B sz sz' (hs.heap _ _ h1).1 (hs.heap _ _ h2).1 h3 h4 }⟩
  · have hb : ∀ b k, look b s2.heap = some k → b < s2.n := fun b k hk => ((hs.heap b k hk).2.resolve_left hn).1
    refine ⟨φ.cut s2.n, ⟨h.below, h.base, h.fok, h.fle, h.fnew, fun b hb => ?_, hs.lon, fun b hb => ?_, h.size.trans hs.N.symm, h.defers, fun i p hp => ?_, fun b k hk => ?_, fun b b' k k' B sz sz' h1 h2 h3 h4 => ?_⟩⟩
    · rw [Phi.cut, if_pos (Nat.lt_of_lt_of_le hb hs.lon)]
      exact h.phi0 b (by rw [← hs.lo]; exact hb)
    · rw [Phi.cut, if_neg (by omega)]
    · obtain ⟨h1, h2⟩ := hs.tm i p hp
      exact (h.tm i p h1).cut (h2.resolve_left hn)
    · obtain ⟨h1, h2⟩ := hs.heap b k hk
      obtain ⟨h2, h3⟩ := h2.resolve_left hn
      obtain ⟨B, cs, hl⟩ := h.heap b k h1
      refine ⟨B, cs, ⟨by rw [Phi.cut, if_pos h2]; exact hl.at_, hl.old, hl.cells, ?_⟩⟩
      cases hl.reads with
      | obj hn' hr hF => exact .obj hn' (fun i p hp => let ⟨u, h1, h2⟩ := hr i p hp; ⟨u, h1, h2.cut (PV.lts_get h3 i p hp)⟩) hF
      | row hn' he hr hF => exact .row hn' he hr hF
    · rw [Phi.cut, if_pos (hb _ _ h1)] at h3
      rw [Phi.cut, if_pos (hb _ _ h2)] at h4
      exact h.inj b b' k k' B sz sz' (hs.heap _ _ h1).1 (hs.heap _ _ h2).1 h3 h4

/-- Blocks are forgotten. -/
theorem Sim.forget {B0 : Nat} {w0 : World} {φ0 : Phi} {F0 : FMem} {s : St} {F : FMem} {φ : Phi} {a : Act} {w : World} (h : Sim B0 w0 φ0 F0 s F φ a w) {l : List (Nat × Blk)} (hl : ∀ b k, look b l = some k → look b s.heap = some k) :
    Sim B0 w0 φ0 F0 { s with heap := l } F φ a w :=
  { h with heap := fun b k hk => h.heap b k (hl b k hk), inj := fun b b' k k' B sz sz' h1 h2 h3 h4 => h.inj b b' k k' B sz sz' (hl _ _ h1) (hl _ _ h2) h3 h4 }
theorem Tri.sub {c : Code} {Q : Ex → St → Prop} {s s2 : St} (hs : Sub s2 s) (h : Tri P c Q s2) : Tri P c Q s := by
  intro B0 w0 φ0 F0 F φ a w hsim
  obtain ⟨φ', h'⟩ := hsim.sub hs
  refine wp_mono (h B0 w0 φ0 F0 F φ' a w h') ?_
  rintro e a' w' ⟨x, s', F', φ', he, hq, h1, h2, hs'⟩
  exact ⟨x, s', F', φ', he, hq, h1.trans hs.lo, h2.trans hs.N, hs'⟩
theorem TriL.sub {ops : Array Oper} {l : List Oper} {K : St → Prop} {s s2 : St} (hs : Sub s2 s) (h : TriL P ops l K s2) : TriL P ops l K s := by
  intro B0 w0 φ0 F0 F φ a w hsim Q hQ
  obtain ⟨φ', h'⟩ := hsim.sub hs
  exact h B0 w0 φ0 F0 F φ' a w h' Q (fun s' F' φ' a' w' hk h1 h2 hs' => hQ s' F' φ' a' w' hk (h1.trans hs.lo) (h2.trans hs.N) hs')
theorem Sub.refl (s : St) (h : s.lo ≤ s.n) : Sub s s := ⟨rfl, rfl, Nat.le_refl _, h, fun _ _ h => ⟨h, .inl rfl⟩, fun _ _ h => ⟨h, .inl rfl⟩⟩
/-- What a code says at the end may be weaker, too. -/
theorem Tri.post {c : Code} {Q : Ex → St → Prop} {s : St} (h : Tri P c (fun x s' => ∃ s2, Sub s2 s' ∧ Q x s2) s) : Tri P c Q s := by
  intro B0 w0 φ0 F0 F φ a w hsim
  refine wp_mono (h B0 w0 φ0 F0 F φ a w hsim) ?_
  rintro e a' w' ⟨x, s', F', φ', he, ⟨s2, hs2, hq⟩, h1, h2, hs'⟩
  obtain ⟨φ2, h'⟩ := hs'.sub hs2
  exact ⟨x, s2, F', φ2, he, hq, hs2.lo.trans h1, hs2.N.trans h2, h'⟩

/-! ### a loop -/
theorem least {p : Nat → Prop} (h : ∃ n, p n) : ∃ n, p n ∧ ∀ m, p m → n ≤ m := by
  obtain ⟨n, hn⟩ := h
  induction n using Nat.strongRecOn with
  | _ n ih =>
    by_cases hm : ∃ m, m < n ∧ p m
    · obtain ⟨m, h1, h2⟩ := hm; exact ih m h1 h2
    · exact ⟨n, hn, fun m h => Nat.le_of_not_lt fun hl => hm ⟨m, hl, h⟩⟩
open Classical in
noncomputable def leastOf (p : Nat → Prop) : Nat := if h : ∃ n, p n then Classical.choose (least h) else 0
theorem leastOf_spec {p : Nat → Prop} (h : ∃ n, p n) : p (leastOf p) := by
  unfold leastOf; rw [dif_pos h]; exact (Classical.choose_spec (least h)).1
theorem leastOf_le {p : Nat → Prop} {n : Nat} (h : p n) : leastOf p ≤ n := by
  unfold leastOf; rw [dif_pos ⟨n, h⟩]; exact (Classical.choose_spec (least ⟨n, h⟩)).2 n h
theorem Tri.loop {c : Code} {Q : Ex → St → Prop} {s : St} (I : St → Prop) (μ : St → Nat) (h0 : I s)
    (round : ∀ s', I s' → s'.lo = s.lo → s'.N = s.N → Tri P c (after Q (fun s2 => ∃ s3, Sub s3 s2 ∧ I s3 ∧ μ s3 < μ s')) s') : Tri P (.loop c) Q s := by
  intro B0 w0 φ0 F0 F φ a w hs
  let J : Act → World → Nat → Prop := fun a w n => ∃ s' F φ, I s' ∧ s'.lo = s.lo ∧ s'.N = s.N ∧ Sim B0 w0 φ0 F0 s' F φ a w ∧ μ s' = n
  refine wp_loop (fun a w => ∃ n, J a w n) (fun a w => leastOf (J a w)) ⟨_, s, F, φ, h0, rfl, rfl, hs, rfl⟩ ?_
  intro a w hJ
  have hm : J a w (leastOf (J a w)) := leastOf_spec hJ
  obtain ⟨s', F, φ, hI, h1, h2, hsim, hμ⟩ := hm
  refine wp_mono (round s' hI h1 h2 B0 w0 φ0 F0 F φ a w hsim) ?_
  rintro e a' w' ⟨x, s2, F2, φ2, rfl, hq, h12, h22, hs2⟩
  cases x with
  | normal =>
    obtain ⟨s3, hsub, hI3, hlt⟩ := hq
    obtain ⟨φ3, hs3⟩ := hs2.sub hsub
    have hJ3 : J a' w' (μ s3) := ⟨s3, F2, φ3, hI3, hsub.lo.trans (h12.trans h1), hsub.N.trans (h22.trans h2), hs3, rfl⟩
    refine ⟨⟨_, hJ3⟩, ?_⟩
    have : leastOf (J a' w') ≤ μ s3 := leastOf_le hJ3
    omega
  | ret => exact ⟨.ret, s2, F2, φ2, rfl, hq, h12.trans h1, h22.trans h2, hs2⟩
  | exit id => exact ⟨.exit id, s2, F2, φ2, rfl, hq, h12.trans h1, h22.trans h2, hs2⟩

/-! ### what stands in a temporary -/
def tOf : Nat → Value → Option T
  | 0, _ => none
  | n + 1, .agg cs => (cs.toList.mapM (tOf n)).map .agg
  | _ + 1, .slice none 0 0 => some (.sl true [])
  | _ + 1, v => if sc v then some (.v v) else none
def ofConst (v : Value) : PV :=
  match tOf 6 v with
  | some x => .t x
  | none => .undef
def evt (tm : List (Nat × PV)) : Operand → PV
  | .tmp t => (look t tm).getD .undef
  | .const v => ofConst v
  | .func f => .t (.v (.func (.func f) #[] #[]))
  | .global _ => .undef
def St.ev (s : St) (x : Operand) : PV := evt s.tm x
theorem mapM_some {α β : Type} {f : α → Option β} : ∀ {l : List α} {r : List β}, l.mapM f = some r → r.length = l.length ∧ ∀ (i : Nat) (x : α) (y : β), l[i]? = some x → r[i]? = some y → f x = some y
  | [], r, h => by simp at h; subst h; simp
  | a :: l, r, h => by
    rw [List.mapM_cons] at h
    simp only [Option.bind_eq_bind, Option.bind_eq_some_iff, Option.pure_def, Option.some.injEq] at h
    obtain ⟨b, hb, r', hr', rfl⟩ := h
    obtain ⟨h1, h2⟩ := mapM_some hr'
    refine ⟨by simp [h1], fun i x y hx hy => ?_⟩
    cases i with
    | zero => simp at hx hy; subst hx; subst hy; exact hb
    | succ i => exact h2 i x y (by simpa using hx) (by simpa using hy)
theorem tOf_tr {F : FMem} : ∀ (n : Nat) (v : Value) (x : T), tOf n v = some x → TR F x v
  | 0, v, x, h => by exact absurd h (by unfold tOf; simp)
  | n + 1, v, x, h => by
    unfold tOf at h
    split at h
    · exact absurd h (by simp)
    · rename_i m cs hm
      obtain rfl : n = m := by omega
      simp only [Option.map_eq_some_iff] at h
      obtain ⟨xs, hxs, rfl⟩ := h
      obtain ⟨h1, h2⟩ := mapM_some hxs
      refine .agg (by simpa using h1) (fun i y u hy hu => tOf_tr _ u y (h2 i u y (by simpa using hu) hy))
    · cases h; exact .nil
    · split at h
      · cases h; exact .v ‹_›
      · cases h
theorem ofConst_vr {F : FMem} {φ : Phi} (v : Value) : VR F φ (ofConst v) v := by
  unfold ofConst
  split
  · exact .t (tOf_tr _ _ _ ‹_›)
  · exact .undef _
theorem Sim.ev {B0 : Nat} {w0 : World} {φ0 : Phi} {F0 : FMem} {s : St} {F : FMem} {φ : Phi} {a : Act} {w : World} (h : Sim B0 w0 φ0 F0 s F φ a w) (x : Operand) : VR F φ (s.ev x) (a.eval x) := by
  cases x with
  | tmp t =>
    simp only [St.ev, evt, Act.eval]
    cases hl : look t s.tm with
    | none => exact .undef _
    | some p => exact h.tm t p hl
  | const v => exact ofConst_vr v
  | global g => exact .undef _
  | func f => exact .t (.v rfl)

def St.put (s : St) (d : Nat) (p : PV) : St := { s with tm := (d, p) :: s.tm }
theorem Sim.put {B0 : Nat} {w0 : World} {φ0 : Phi} {F0 : FMem} {s : St} {F : FMem} {φ : Phi} {a : Act} {w : World} (h : Sim B0 w0 φ0 F0 s F φ a w) {d : Nat} (hd : d < s.N) {p : PV} {v : Value} (hv : VR F φ p v) :
    Sim B0 w0 φ0 F0 (s.put d p) F φ (a.put (some d) v) w := by
  refine { h with size := by simpa [Act.put, St.put] using h.size, tm := ?_ }
  intro i q hq
  have hsz := h.size
  simp only [St.put, look] at hq
  simp only [Act.put]
  split at hq
  · rename_i e; subst e; cases hq
    rw [Array.getD_eq_getD_getElem?, Array.getElem?_setIfInBounds_self_of_lt (by omega)]
    exact hv
  · rename_i e
    rw [Array.getD_eq_getD_getElem?, Array.getElem?_setIfInBounds_ne (by omega), ← Array.getD_eq_getD_getElem?]
    exact h.tm i q hq
/-- A temporary of which nothing is known any more. -/
def St.drop (s : St) (d : Nat) : St := { s with tm := (d, .undef) :: s.tm }
theorem Sim.dst {B0 : Nat} {w0 : World} {φ0 : Phi} {F0 : FMem} {s : St} {F : FMem} {φ : Phi} {a : Act} {w : World} (h : Sim B0 w0 φ0 F0 s F φ a w) {d : Option Nat} (hd : ∀ t, d = some t → t < s.N) {p : PV} {v : Value} (hv : VR F φ p v) :
    Sim B0 w0 φ0 F0 (match d with | some d => s.put d p | none => s) F φ (a.put d v) w := by
  cases d with
  | none => exact h
  | some d => exact h.put (hd d rfl) hv

/-! ### lists of operations -/
theorem TriL.nil {ops : Array Oper} {K : St → Prop} {s : St} (h : K s) : TriL P ops [] K s := by
  intro B0 w0 φ0 F0 F φ a w hs Q hQ
  exact wpList_nil (hQ s F φ a w h rfl rfl hs)
theorem TriL.cons {ops : Array Oper} {o : Oper} {l : List Oper} {K : St → Prop} {s : St} (hg : o.guard = none) (h : TriO P o (TriL P ops l K) s) : TriL P ops (o :: l) K s := by
  intro B0 w0 φ0 F0 F φ a w hs Q hQ
  refine wpList_plain hg (fun K' hK' => ?_)
  refine h B0 w0 φ0 F0 F φ a w hs K' Q (fun s' F' φ' a' w' hk h1 h2 hs' => ?_)
  exact hK' _ _ (hk B0 w0 φ0 F0 F' φ' a' w' hs' Q (fun s2 F2 φ2 a2 w2 hk2 h12 h22 hs2 => hQ s2 F2 φ2 a2 w2 hk2 (h12.trans h1) (h22.trans h2) hs2))
/-- A guard: the operation whose answer decides. -/
def guardTmp (ops : Array Oper) (j : Nat) : Nat := ((ops[j]?).bind (·.dst)).getD 0
theorem TriL.guard {ops : Array Oper} {o : Oper} {l : List Oper} {K : St → Prop} {s : St} {j : Nat} {want b : Bool} {d g : Nat} (hg : o.guard = some (j, want)) (hj : (ops[j]?).bind (·.dst) = some g)
    (hb : s.ev (.tmp g) = .t (.v (.bool b))) (hd : o.dst = some d) (hN : d < s.N)
    (hy : b = want → TriO P o (TriL P ops l K) s) (hn : b ≠ want → TriL P ops l K (s.put d .undef)) : TriL P ops (o :: l) K s := by
  intro B0 w0 φ0 F0 F φ a w hs Q hQ
  have hev := hs.ev (.tmp g)
  rw [hb] at hev
  cases hev with
  | t ht =>
    generalize hq : a.eval (.tmp g) = q at ht
    cases ht
    have hyl : yielded ops a.tmps j = some b := by
      simp only [Act.eval] at hq
      have hq' : a.tmps[g]? = some (.bool b) := by
        rw [Array.getD_eq_getD_getElem?] at hq
        cases hg' : a.tmps[g]? with
        | none => rw [hg'] at hq; simp [undef] at hq
        | some u => rw [hg'] at hq; simp at hq; rw [hq]
      simp [yielded, hj, hq']
    refine wpList_step (fun K' hK' => ?_)
    by_cases e : b = want
    · rw [if_pos (by simp [Region.wanted, hg, hyl, e])]
      refine hy e B0 w0 φ0 F0 F φ a w hs K' Q (fun s' F' φ' a' w' hk h1 h2 hs' => ?_)
      exact hK' _ _ (hk B0 w0 φ0 F0 F' φ' a' w' hs' Q (fun s2 F2 φ2 a2 w2 hk2 h12 h22 hs2 => hQ s2 F2 φ2 a2 w2 hk2 (h12.trans h1) (h22.trans h2) hs2))
    · rw [if_neg (by simp [Region.wanted, hg, hyl, e])]
      apply hK'
      have h2 := hs.put hN (p := .undef) (v := undef) (.undef _)
      rw [← hd] at h2
      exact hn e B0 w0 φ0 F0 F φ _ w h2 Q hQ
theorem Tri.region {id : Nat} {ops : Array Oper} {Q : Ex → St → Prop} {s : St} (h : TriL P ops ops.toList (Q .normal) s) : Tri P (.region id ops false) Q s := by
  intro B0 w0 φ0 F0 F φ a w hs
  exact wp_region_list (h B0 w0 φ0 F0 F φ a w hs _ (fun s' F' φ' a' w' hk h1 h2 hs' => ⟨.normal, s', F', φ', rfl, hk, h1, h2, hs'⟩))
theorem Tri.cond {c : Operand} {x y : Code} {Q : Ex → St → Prop} {s : St} {b : Bool} (hb : s.ev c = .t (.v (.bool b))) (ht : b = true → Tri P x Q s) (hf : b = false → Tri P y Q s) : Tri P (.cond c x y) Q s := by
  intro B0 w0 φ0 F0 F φ a w hs
  have hev := hs.ev c
  rw [hb] at hev
  cases hev with
  | t h =>
    generalize hq : a.eval c = q at h
    cases h
    exact wp_cond_split hq (fun e => ht e B0 w0 φ0 F0 F φ a w hs) (fun e => hf e B0 w0 φ0 F0 F φ a w hs)
end Go.Proofs.YtaplmmhkpljmkaaDoor.E
