/- The engine: what is said of a function, and how it is called. -/
import Derived.Test.YtaplmmhkpljmkaaDoorE6
namespace Go.Proofs.YtaplmmhkpljmkaaDoor.E
open Go Go.RowKit
set_option linter.unusedVariables false
set_option linter.unusedSimpArgs false

variable {P : Program}

/-- One result: a tree, or a new row that is the caller's own. -/
inductive R1 where
  | t (x : T)
  | own (e : Nat) (xs : List T)
inductive Res where
  | one (r : R1)
  | tup (rs : List R1)

structure OwnAt (F : FMem) (B : Nat) (w : World) (e : Nat) (xs : List T) (v : Value) (Bk : Nat) (c : Nat) (cs : Array Value) (ty : TypeId) : Prop where
  val : v = .slice (some ⟨Bk, 0, none⟩) xs.length c
  new : B ≤ Bk
  cap : xs.length ≤ c
  room : c * e ≤ cs.size
  at_ : w.heap[Bk]? = some (.cells cs ty (0, 0))
  he : ∀ (i : Nat) (x : T), xs[i]? = some x → x.leaves.length = e
  get : ∀ (i : Nat) (x : T) (j : Nat) (p : T), xs[i]? = some x → x.leaves[j]? = some p → ∃ u, cs[i * e + j]? = some u ∧ TR F p u ∧ u.oneCell' = true
  free : ∀ a u, F a = some u → a.block ≠ Bk
inductive RR1 (F : FMem) (B : Nat) (w : World) : R1 → Value → Option Nat → Prop
  | t {x : T} {v : Value} (h : TR F x v) : RR1 F B w (.t x) v none
  | own {e : Nat} {xs : List T} {v : Value} {Bk c : Nat} {cs : Array Value} {ty : TypeId} (h : OwnAt F B w e xs v Bk c cs ty) : RR1 F B w (.own e xs) v (some Bk)
inductive RR (F : FMem) (B : Nat) (w : World) : Res → Value → Prop
  | one {r : R1} {v : Value} {b : Option Nat} (h : RR1 F B w r v b) : RR F B w (.one r) v
  | tup {rs : List R1} {vs : Array Value} (bs : Nat → Option Nat) (hn : rs.length = vs.size) (h : ∀ (i : Nat) (r : R1) (v : Value), rs[i]? = some r → vs[i]? = some v → RR1 F B w r v (bs i))
      (hd : ∀ i j b, i ≠ j → bs i = some b → bs j ≠ some b) (hb : ∀ i b, bs i = some b → B ≤ b) : RR F B w (.tup rs) (.tuple vs)

/-- WHAT A FUNCTION ANSWERS: to such trees, this. -/
def Pure (P : Program) (f : FuncId) (args : List T) (r : Res) : Prop :=
  ∀ (F : FMem) (vs : Array Value) (w : World), FOK F w → args.length = vs.size → (∀ (i : Nat) (x : T) (v : Value), args[i]? = some x → vs[i]? = some v → TR F x v) →
    Calls P f vs w fun e w' => ∃ rv F', e = .returned rv ∧ F.le F' ∧ FOK F' w' ∧ (∀ a, F' a ≠ F a → w.heap.size ≤ a.block) ∧ Below w.heap.size w w' ∧ RR F' w.heap.size w' r rv

/-! ### more is known of memory for good -/
section
variable {B0 : Nat} {w0 : World} {φ0 : Phi} {F0 : FMem} {s : St} {F : FMem} {φ : Phi} {a : Act} {w : World}
theorem Sim.more (h : Sim B0 w0 φ0 F0 s F φ a w) {F' : FMem} (hle : F.le F') (hok : FOK F' w) (hnew : ∀ x, F' x ≠ F x → B0 ≤ x.block) (hfree : ∀ b k B sz, look b s.heap = some k → φ b = some (B, sz) → ∀ x, F' x ≠ F x → x.block ≠ B) : Sim B0 w0 φ0 F0 s F' φ a w := by
  refine ⟨h.below, h.base, hok, FMem.le_trans h.fle hle, fun x hx => ?_, h.phi0, h.lo, h.fresh, h.size, h.defers, fun i p hp => (h.tm i p hp).mono hle (Phi.le_refl φ), fun b k hk => ?_, h.inj⟩
  · by_cases e : F' x = F x
    · exact h.fnew x (fun e2 => hx (e.trans e2))
    · exact hnew x e
  · obtain ⟨B, cs, hl⟩ := h.heap b k hk
    refine ⟨B, cs, hl.at_, hl.old, hl.cells, ?_⟩
    have hf := hfree b k B _ hk hl.at_
    cases hl.reads with
    | obj hn hr hF =>
      refine .obj hn (fun i p hp => let ⟨u, h1, h2⟩ := hr i p hp; ⟨u, h1, h2.mono hle (Phi.le_refl φ)⟩) (fun x u e => ?_)
      by_cases e2 : F' x = F x
      · exact hF x u (e2 ▸ e)
      · exact hf x e2
    | row hn he hr hF =>
      refine .row hn he (fun i y j p h1 h2 => let ⟨u, h3, h4, h5⟩ := hr i y j p h1 h2; ⟨u, h3, h4.mono hle, h5⟩) (fun x u e eb => ?_)
      by_cases e2 : F' x = F x
      · exact hF x u (e2 ▸ e) eb
      · exact absurd eb (hf x e2)

/-- A row of our own is not written any more. -/
theorem Sim.freeze (h : Sim B0 w0 φ0 F0 s F φ a w) {b e : Nat} {xs : List T} {fz : Bool} (hb : look b s.heap = some (.row e xs fz)) :
    ∃ F', F.le F' ∧ (∀ x, F' x ≠ F x → ∃ sz, φ b = some (x.block, sz)) ∧ Sim B0 w0 φ0 F0 (s.upd b (.row e xs true)) F' φ a w ∧
      ∀ off len cap v, off + len ≤ xs.length → VR F φ (.ref b e off len cap) v → TR F' (.sl false ((xs.drop off).take len)) v := by
  obtain ⟨B, cs, hl⟩ := h.heap b _ hb
  obtain ⟨t, ht⟩ := hl.cells
  let F' : FMem := fun x => if x.block = B ∧ x.spot = none ∧ x.off < xs.length * e then w.cell? x else F x
  have hin : ∀ x, (x.block = B ∧ x.spot = none ∧ x.off < xs.length * e) → F' x = w.cell? x := fun x hx => if_pos hx
  have hout : ∀ x, ¬ (x.block = B ∧ x.spot = none ∧ x.off < xs.length * e) → F' x = F x := fun x hx => if_neg hx
  have hle : F.le F' := by
    intro x u e1
    by_cases hx : x.block = B ∧ x.spot = none ∧ x.off < xs.length * e
    · rw [hin x hx]; exact (h.fok x u e1).1
    · rw [hout x hx]; exact e1
  have hcell : ∀ x : Addr, x.block = B → x.spot = none → w.cell? x = cs[x.off]? := by
    intro x hx hs
    have : x = ⟨B, x.off, none⟩ := by cases x; simp_all
    rw [this, cell_at ht]
  have hok : FOK F' w := by
    intro x u e1
    by_cases hx : x.block = B ∧ x.spot = none ∧ x.off < xs.length * e
    · rw [hin x hx] at e1
      refine ⟨e1, ?_⟩
      rw [hcell x hx.1 hx.2.1] at e1
      obtain ⟨u', h1, h2⟩ := hl.reads.ones x.off hx.2.2
      rw [e1] at h1; cases h1; exact h2
    · rw [hout x hx] at e1; exact h.fok x u e1
  have hne : ∀ x, F' x ≠ F x → x.block = B := by
    intro x hx
    by_cases hc : x.block = B ∧ x.spot = none ∧ x.off < xs.length * e
    · exact hc.1
    · exact absurd (hout x hc) hx
  have hrow : RowAt F' xs B 0 e (fun i j => cs.getD (i * e + j) undef) := by
    cases hl.reads with
    | row hn he hr hF =>
      have key : ∀ (i : Nat) (x : T) (j : Nat) (p : T), xs[i]? = some x → x.leaves[j]? = some p → cs[i * e + j]? = some (cs.getD (i * e + j) undef) ∧ TR F p (cs.getD (i * e + j) undef) ∧ i * e + j < xs.length * e := by
        intro i x j p h1 h2
        obtain ⟨u, h3, h4, _⟩ := hr i x j p h1 h2
        have hu : cs.getD (i * e + j) undef = u := by rw [Array.getD_eq_getD_getElem?, h3]; rfl
        have hi := (List.getElem?_eq_some_iff.1 h1).1
        have hj := (List.getElem?_eq_some_iff.1 h2).1
        rw [he i x h1] at hj
        have : (i + 1) * e ≤ xs.length * e := Nat.mul_le_mul_right e hi
        rw [Nat.add_mul] at this
        exact ⟨hu ▸ h3, hu ▸ h4, by omega⟩
      refine ⟨he, fun i x j p h1 h2 => ?_, fun i x j p h1 h2 => (key i x j p h1 h2).2.1.mono hle⟩
      obtain ⟨k1, _, k3⟩ := key i x j p h1 h2
      rw [Nat.zero_add, hin _ ⟨rfl, rfl, k3⟩, cell_at ht]; exact k1
  refine ⟨F', hle, fun x hx => ⟨cs.size, by rw [hne x hx]; exact hl.at_⟩, ?_, fun off len cap v hol hv => ?_⟩
  · refine ⟨h.below, h.base, hok, FMem.le_trans h.fle hle, fun x hx => ?_, h.phi0, h.lo, h.fresh, h.size, h.defers, fun i p hp => (h.tm i p hp).mono hle (Phi.le_refl φ), fun b2 k2 hk2 => ?_, fun b1 b2 k1 k2 B2 s1 s2 g1 g2 g3 g4 => ?_⟩
    · by_cases e1 : F' x = F x
      · exact h.fnew x (fun e2 => hx (e1.trans e2))
      · rw [hne x e1]; exact hl.old
    · simp only [St.upd, look] at hk2
      split at hk2
      · rename_i e1; subst e1; cases hk2
        refine ⟨B, cs, hl.at_, hl.old, hl.cells, ?_⟩
        cases hl.reads with
        | row hn he hr hF =>
          refine .row hn he (fun i y j p h1 h2 => let ⟨u, h3, h4, h5⟩ := hr i y j p h1 h2; ⟨u, h3, h4.mono hle, h5⟩) (fun x u e1 e2 => ⟨rfl, ?_⟩)
          by_cases hc : x.block = B ∧ x.spot = none ∧ x.off < xs.length * e
          · exact hc.2.2
          · rw [hout x hc] at e1; exact (hF x u e1 e2).2
      · rename_i e1
        obtain ⟨B2, cs2, hl2⟩ := h.heap b2 k2 hk2
        have hB : B2 ≠ B := fun e2 => e1 (h.inj b2 b k2 _ B _ _ hk2 hb (e2 ▸ hl2.at_) hl.at_)
        refine ⟨B2, cs2, hl2.at_, hl2.old, hl2.cells, ?_⟩
        have hsame : ∀ x u, F' x = some u → x.block = B2 → F x = some u := by
          intro x u e2 e3
          rw [hout x (fun hc => hB (e3.symm.trans hc.1))] at e2; exact e2
        cases hl2.reads with
        | obj hn hr hF => exact .obj hn (fun i p hp => let ⟨u, h1, h2⟩ := hr i p hp; ⟨u, h1, h2.mono hle (Phi.le_refl φ)⟩) (fun x u e2 e3 => hF x u (hsame x u e2 e3) e3)
        | row hn he hr hF => exact .row hn he (fun i y j p h1 h2 => let ⟨u, h3, h4, h5⟩ := hr i y j p h1 h2; ⟨u, h3, h4.mono hle, h5⟩) (fun x u e2 e3 => hF x u (hsame x u e2 e3) e3)
    · have back : ∀ c k, look c ((b, Blk.row e xs true) :: s.heap) = some k → ∃ k', look c s.heap = some k' := by
        intro c k hk
        simp only [look] at hk
        split at hk
        · rename_i e1; subst e1; exact ⟨_, hb⟩
        · exact ⟨k, hk⟩
      obtain ⟨k1', g1'⟩ := back b1 k1 g1
      obtain ⟨k2', g2'⟩ := back b2 k2 g2
      exact h.inj b1 b2 k1' k2' B2 s1 s2 g1' g2' g3 g4
  · cases hv with
    | @ref _ _ _ _ _ B' sz c hφ h1 h2 h3 =>
      have := hl.at_; rw [hφ] at this; cases this
      have hp := hrow.part off len
      have hlen : ((xs.drop off).take len).length = len := by simp; omega
      have := hp.tr (c := c) (by rw [hlen]; omega)
      rw [hlen, Nat.zero_add] at this
      exact this
end

/-- Arguments: trees, or rows of our own that are lent. -/
inductive Lend : St → List PV → List T → St → Prop
  | nil {s : St} : Lend s [] [] s
  | tree {s s1 : St} {p : PV} {ps : List PV} {x : T} {xs : List T} (h : p.toT = some x) (k : Lend s ps xs s1) : Lend s (p :: ps) (x :: xs) s1
  | ref {s s1 : St} {b e off len cap : Nat} {ys : List T} {fz : Bool} {ps : List PV} {xs : List T} (hb : look b s.heap = some (.row e ys fz)) (hl : off + len ≤ ys.length) (k : Lend (s.upd b (.row e ys true)) ps xs s1) :
      Lend s (.ref b e off len cap :: ps) (.sl false ((ys.drop off).take len) :: xs) s1
theorem Lend.sim {B0 : Nat} {w0 : World} {φ0 : Phi} {F0 : FMem} {a : Act} {w : World} {φ : Phi} {s s1 : St} {ps : List PV} {xs : List T} (h : Lend s ps xs s1) : ∀ (F : FMem) (vs : List Value), Sim B0 w0 φ0 F0 s F φ a w → ps.length = vs.length →
    (∀ (i : Nat) (p : PV) (v : Value), ps[i]? = some p → vs[i]? = some v → VR F φ p v) →
    s1.lo = s.lo ∧ s1.N = s.N ∧ s1.n = s.n ∧ s1.tm = s.tm ∧ ∃ F', F.le F' ∧ Sim B0 w0 φ0 F0 s1 F' φ a w ∧ xs.length = vs.length ∧ ∀ (i : Nat) (x : T) (v : Value), xs[i]? = some x → vs[i]? = some v → TR F' x v := by
  induction h with
  | nil => intro F vs hs hl hv; exact ⟨rfl, rfl, rfl, rfl, F, FMem.le_refl F, hs, hl, fun i x v h => by simp at h⟩
  | tree h k ih =>
    intro F vs hs hl hv
    cases vs with
    | nil => simp at hl
    | cons v vs =>
      obtain ⟨g1, g2, g3, g4, F', h1, h2, h3, h4⟩ := ih F vs hs (by simpa using hl) (fun i p u hp hu => hv (i + 1) p u (by simpa using hp) (by simpa using hu))
      refine ⟨g1, g2, g3, g4, F', h1, h2, by simp [h3], fun i x u hx hu => ?_⟩
      cases i with
      | zero => simp at hx hu; subst hx; subst hu; exact (PV.toT_tr (hv 0 _ _ rfl rfl) h).mono h1
      | succ i => exact h4 i x u (by simpa using hx) (by simpa using hu)
  | @ref s s1 b e off len cap ys fz ps xs hb hl' k ih =>
    intro F vs hs hl hv
    cases vs with
    | nil => simp at hl
    | cons v vs =>
      obtain ⟨F1, k1, _, k2, k3⟩ := hs.freeze hb
      obtain ⟨g1, g2, g3, g4, F', h1, h2, h3, h4⟩ := ih F1 vs k2 (by simpa using hl) (fun i p u hp hu => (hv (i + 1) p u (by simpa using hp) (by simpa using hu)).mono k1 (Phi.le_refl φ))
      refine ⟨g1, g2, g3, g4, F', FMem.le_trans k1 h1, h2, by simp [h3], fun i x u hx hu => ?_⟩
      cases i with
      | zero => simp at hx hu; subst hx; subst hu; exact (k3 off len cap _ hl' (hv 0 _ _ rfl rfl)).mono h1
      | succ i => exact h4 i x u (by simpa using hx) (by simpa using hu)

/-! ### what a call leaves -/
def St.adopt (s : St) : R1 → St × PV
  | .t x => (s, .t x)
  | .own e xs => (s.alloc (.row e xs false), .ref s.n e 0 xs.length xs.length)
def St.adopts (s : St) : List R1 → St × List PV
  | [] => (s, [])
  | r :: rs => (((s.adopt r).1.adopts rs).1, (s.adopt r).2 :: ((s.adopt r).1.adopts rs).2)
def St.got (s : St) (d : Nat) : Res → St
  | .one r => (s.adopt r).1.put d (s.adopt r).2
  | .tup rs => (s.adopts rs).1.put d (.tup (s.adopts rs).2)
section
variable {B0 : Nat} {w0 : World} {φ0 : Phi} {F0 : FMem} {s : St} {F : FMem} {φ : Phi} {a : Act} {w : World}
/-- A block that a callee has laid. -/
theorem Sim.adopt (h : Sim B0 w0 φ0 F0 s F φ a w) {B : Nat} {r : R1} {v : Value} {bk : Option Nat} (hr : RR1 F B w r v bk) (hB : B0 ≤ B) (hfree : ∀ b k B' sz, look b s.heap = some k → φ b = some (B', sz) → bk ≠ some B') :
    (s.adopt r).1.lo = s.lo ∧ (s.adopt r).1.N = s.N ∧ ∃ φ', φ.le φ' ∧ Sim B0 w0 φ0 F0 (s.adopt r).1 F φ' a w ∧ VR F φ' (s.adopt r).2 v ∧
      ∀ b k B' sz, look b (s.adopt r).1.heap = some k → φ' b = some (B', sz) → (∃ k', look b s.heap = some k' ∧ φ b = some (B', sz)) ∨ bk = some B' := by
  cases hr with
  | t ht => exact ⟨rfl, rfl, φ, Phi.le_refl φ, h, .t ht, fun b k B' sz h1 h2 => .inl ⟨k, h1, h2⟩⟩
  | @own e xs v Bk c cs ty ho =>
    have hle : φ.le (φ.new s.n (Bk, cs.size)) := Phi.le_new (h.fresh _ (Nat.le_refl _))
    have hb1 : xs.length * e ≤ cs.size := Nat.le_trans (Nat.mul_le_mul_right e ho.cap) ho.room
    refine ⟨rfl, rfl, _, hle, ⟨h.below, h.base, h.fok, h.fle, h.fnew, fun b hb => ?_, Nat.le_succ_of_le h.lo, fun b hb => ?_, h.size, h.defers, fun i p hp => (h.tm i p hp).mono (FMem.le_refl F) hle, fun b k hk => ?_, fun b1 b2 k1 k2 B2 s1 s2 g1 g2 g3 g4 => ?_⟩, ?_, fun b k B' sz h1 h2 => ?_⟩
    · have := h.lo
      simp only [St.adopt, St.alloc] at hb
      rw [Phi.new, if_neg (by omega)]; exact h.phi0 b hb
    · simp only [St.adopt, St.alloc] at hb
      rw [Phi.new, if_neg (by omega)]; exact h.fresh b (by omega)
    · simp only [St.adopt, St.alloc, look] at hk
      split at hk
      · rename_i e1; subst e1; cases hk
        exact ⟨Bk, cs, if_pos rfl, Nat.le_trans hB ho.new, ⟨ty, ho.at_⟩, .row hb1 ho.he (fun i y j p q1 q2 => ho.get i y j p q1 q2) (fun x u e1 e2 => absurd e2 (ho.free x u e1))⟩
      · obtain ⟨B2, cs2, hl2⟩ := h.heap b k hk
        exact ⟨B2, cs2, hle _ _ hl2.at_, hl2.old, hl2.cells, hl2.reads.mono hle⟩
    · simp only [St.adopt, St.alloc, look] at g1 g2
      by_cases e1 : b1 = s.n <;> by_cases e2 : b2 = s.n
      · rw [e1, e2]
      · rw [Phi.new, if_pos e1] at g3; rw [Phi.new, if_neg e2] at g4; rw [if_neg e2] at g2
        cases g3; exact absurd rfl (hfree b2 k2 _ _ g2 g4)
      · rw [Phi.new, if_pos e2] at g4; rw [Phi.new, if_neg e1] at g3; rw [if_neg e1] at g1
        cases g4; exact absurd rfl (hfree b1 k1 _ _ g1 g3)
      · rw [Phi.new, if_neg e1] at g3; rw [Phi.new, if_neg e2] at g4; rw [if_neg e1] at g1; rw [if_neg e2] at g2
        exact h.inj b1 b2 k1 k2 B2 s1 s2 g1 g2 g3 g4
    · rw [ho.val]
      have := VR.ref (F := F) (φ := φ.new s.n (Bk, cs.size)) (b := s.n) (e := e) (off := 0) (len := xs.length) (cap := xs.length) (B := Bk) (sz := cs.size) (c := c) (if_pos rfl) (Nat.le_refl _) ho.cap (by have := ho.room; omega)
      simpa [St.adopt] using this
    · simp only [St.adopt, St.alloc, look] at h1
      by_cases e1 : b = s.n
      · rw [Phi.new, if_pos e1] at h2; cases h2; exact .inr rfl
      · rw [Phi.new, if_neg e1] at h2; rw [if_neg e1] at h1; exact .inl ⟨k, h1, h2⟩
theorem Sim.adopts {B : Nat} (hB : B0 ≤ B) : ∀ (rs : List R1) (vs : List Value) (bs : Nat → Option Nat) (s : St) (φ : Phi), Sim B0 w0 φ0 F0 s F φ a w → rs.length = vs.length →
    (∀ (i : Nat) (r : R1) (v : Value), rs[i]? = some r → vs[i]? = some v → RR1 F B w r v (bs i)) → (∀ i j b, i ≠ j → bs i = some b → bs j ≠ some b) →
    (∀ b k B' sz i, look b s.heap = some k → φ b = some (B', sz) → bs i ≠ some B') →
    (s.adopts rs).1.lo = s.lo ∧ (s.adopts rs).1.N = s.N ∧ ∃ φ', φ.le φ' ∧ Sim B0 w0 φ0 F0 (s.adopts rs).1 F φ' a w ∧ (s.adopts rs).2.length = vs.length ∧ ∀ (i : Nat) (p : PV) (v : Value), (s.adopts rs).2[i]? = some p → vs[i]? = some v → VR F φ' p v
  | [], vs, bs, s, φ, h, hl, _, _, _ => ⟨rfl, rfl, φ, Phi.le_refl φ, h, hl, fun i p v h => by simp [St.adopts] at h⟩
  | r :: rs, [], bs, s, φ, h, hl, _, _, _ => by simp at hl
  | r :: rs, v :: vs, bs, s, φ, h, hl, hr, hd, hf => by
    obtain ⟨l1, l2, φ1, k1, k2, k3, k4⟩ := h.adopt (hr 0 r v rfl rfl) hB (fun b k B' sz h1 h2 => hf b k B' sz 0 h1 h2)
    obtain ⟨m1, m2, φ2, n1, n2, n3, n4⟩ := Sim.adopts hB rs vs (fun i => bs (i + 1)) (s.adopt r).1 φ1 k2 (by simpa using hl) (fun i r' v' q1 q2 => hr (i + 1) r' v' (by simpa using q1) (by simpa using q2))
      (fun i j b q1 q2 => hd (i + 1) (j + 1) b (by omega) q2)
      (fun b k B' sz i q1 q2 => by
        rcases k4 b k B' sz q1 q2 with ⟨k', q3, q4⟩ | q3
        · exact hf b k' B' sz (i + 1) q3 q4
        · exact hd 0 (i + 1) B' (by omega) q3)
    refine ⟨m1.trans l1, m2.trans l2, φ2, Phi.le_trans k1 n1, n2, by simp [St.adopts, n3], fun i p u hp hu => ?_⟩
    cases i with
    | zero => simp [St.adopts] at hp hu; subst hp; subst hu; exact k3.mono (FMem.le_refl F) n1
    | succ i => exact n4 i p u (by simpa [St.adopts] using hp) (by simpa using hu)
end
/-- A function that may be called. -/
class FnIs (P : Program) (f : FuncId) : Prop where
  is : ∃ fn, P.funcs[f]? = some fn ∧ fn.body.isNone = false ∧ (fn.name == "runtime.NumGoroutine") = false
theorem FnIs.of {f : FuncId} {fn : Func} (h : P.funcs[f]? = some fn) (hb : fn.body.isNone = false) (hn : (fn.name == "runtime.NumGoroutine") = false) : FnIs P f := ⟨fn, h, hb, hn⟩
theorem callFunc_run {f : FuncId} (h : FnIs P f) (args : Array Value) (w : World) : (callFunc f args).run P w = .ok (.enter f args) w := by
  obtain ⟨fn, h1, h2, h3⟩ := h.is
  simp only [callFunc, Sem.run_bind, program, Sem.run, Result.andThen_ok, h1, h3, h2, Bool.false_eq_true, if_false, Sem.run_pure]
section ops
variable {d ty : Nat} {pos : String} {af : Array Edge} {g : Option (Nat × Bool)} {K : St → Prop} {s : St}
/-- A call. -/
theorem TriO.call {x : Operand} {f : FuncId} {xs : List Operand} {ts : Array TypeId} {ps : List PV} {targs : List T} {s1 : St} {r : Res} [hf : FnIs P f] (hx : s.ev x = .t (.v (.func (.func f) #[] #[]))) (hp : xs.map s.ev = ps) (hl : Lend s ps targs s1) (hr : Pure P f targs r) (hN : Nat.blt d s.N = true)
    (hK : K (s1.got d r)) : TriO P ⟨some d, .call ⟨.value x, xs.toArray, ts⟩, ty, pos, af, g⟩ K s := by
  intro B0 w0 φ0 F0 F φ a w hs next Q hQ
  have hfn := (evv0 hs hx).1
  obtain ⟨g1, g2, g3, g4, F1, k1, k2, k3, k4⟩ := hl.sim F (xs.map a.eval) hs (by rw [← hp]; simp) (fun i p v h1 h2 => by
    rw [← hp] at h1
    simp only [List.getElem?_map, Option.map_eq_some_iff] at h1 h2
    obtain ⟨y, hy, rfl⟩ := h1
    obtain ⟨z, hz, rfl⟩ := h2
    rw [hy] at hz; cases hz
    exact hs.ev y)
  have hrun : (execOp a.eval ⟨some d, .call ⟨.value x, xs.toArray, ts⟩, ty, pos, af, g⟩).run P w = .ok (.enter f (xs.map a.eval).toArray) w := by
    simp [execOp, resolve, hfn, Deferred.ofValue, invoke, callFunc_run hf]
  simp only [Oper.wp, hrun, Oper.upon]
  refine (hr F1 (xs.map a.eval).toArray w k2.fok (by simpa using k3) (fun i x v h1 h2 => k4 i x v h1 (by simpa using h2))).mono ?_
  rintro e w' ⟨rv, F2, rfl, h1, h2, h3, h4, h5⟩
  have hsim : Sim B0 w0 φ0 F0 s1 F2 φ a w' := by
    have hb1 : Sim B0 w0 φ0 F0 s1 F1 φ a w' := k2.world (h4.mono k2.base_le) (fun b k B sz q1 q2 => h4.block B (k2.block_lt q1 q2)) (fun x u e1 => by
      obtain ⟨q1, q2⟩ := k2.fok x u e1
      exact ⟨by rw [h4.cell (cell_lt q1)]; exact q1, q2⟩)
    exact hb1.more h1 h2 (fun x hx => Nat.le_trans k2.base_le (h3 x hx)) (fun b k B sz q1 q2 x hx => by have := h3 x hx; have := k2.block_lt q1 q2; omega)
  have hsz := k2.base_le
  cases h5 with
  | one hr1 =>
    obtain ⟨l1, l2, φ', m1, m2, m3, _⟩ := hsim.adopt hr1 hsz (fun b k B' sz q1 q2 e => by
      cases hr1 with
      | t => cases e
      | own ho => cases e; have := ho.new; have := k2.block_lt q1 q2; omega)
    exact hQ _ _ φ' _ _ hK (l1.trans g1) (l2.trans g2) (m2.put (by rw [l2, g2]; simpa [Nat.blt_eq] using hN) m3)
  | @tup rs vs bs hn hr1 hd hb =>
    obtain ⟨l1, l2, φ', m1, m2, m3, m4⟩ := Sim.adopts hsz rs vs.toList bs s1 φ hsim (by simpa using hn) (fun i r v q1 q2 => hr1 i r v q1 (by simpa using q2)) hd (fun b k B' sz i q1 q2 e => by
      have hlt := k2.block_lt q1 q2
      have := hb i B' e
      omega)
    exact hQ _ _ φ' _ _ hK (l1.trans g1) (l2.trans g2) (m2.put (by rw [l2, g2]; simpa [Nat.blt_eq] using hN) (.tup (by simpa using m3) (fun i p u q1 q2 => m4 i p u q1 (by simpa using q2))))
end ops

/-! ### a function's contract out of its body -/
def initTm : Nat → List T → List (Nat × PV)
  | _, [] => []
  | k, x :: xs => (k, .t x) :: initTm (k + 1) xs
theorem look_init : ∀ (k : Nat) (xs : List T) (i : Nat) (p : PV), look i (initTm k xs) = some p → ∃ j x, i = k + j ∧ xs[j]? = some x ∧ p = .t x
  | _, [], _, _, h => by cases h
  | k, x :: xs, i, p, h => by
    simp only [initTm, look] at h
    split at h
    · cases h; exact ⟨0, x, by omega, rfl, rfl⟩
    · obtain ⟨j, y, h1, h2, h3⟩ := look_init (k + 1) xs i p h
      exact ⟨j + 1, y, by omega, by simpa using h2, h3⟩
/-- What stands in the results' temporaries, as it is handed back. -/
inductive Rets : St → List PV → List R1 → Prop
  | nil {s : St} : Rets s [] []
  | tree {s : St} {p : PV} {ps : List PV} {x : T} {rs : List R1} (h : p.toT = some x) (k : Rets s ps rs) : Rets s (p :: ps) (.t x :: rs)
  | froz {s : St} {b e off len cap : Nat} {ys : List T} {fz : Bool} {ps : List PV} {rs : List R1} (hb : look b s.heap = some (.row e ys fz)) (hl : off + len ≤ ys.length) (k : Rets (s.upd b (.row e ys true)) ps rs) :
      Rets s (.ref b e off len cap :: ps) (.t (.sl false ((ys.drop off).take len)) :: rs)
  | own {s : St} {b e len cap : Nat} {ys zs : List T} {ps : List PV} {rs : List R1} (hb : look b s.heap = some (.row e ys false)) (hl : len ≤ ys.length) (hz : ys.take len = zs) (k : Rets { s with heap := wipe b s.heap } ps rs) :
      Rets s (.ref b e 0 len cap :: ps) (.own e zs :: rs)
theorem RR1.mono {F G : FMem} {B : Nat} {w : World} {r : R1} {v : Value} {b : Option Nat} (h : RR1 F B w r v b) (hle : F.le G) (hb : ∀ x, G x ≠ F x → b ≠ some x.block) : RR1 G B w r v b := by
  cases h with
  | t h => exact .t (h.mono hle)
  | own ho =>
    refine .own { ho with get := fun i x j p h1 h2 => let ⟨u, q1, q2, q3⟩ := ho.get i x j p h1 h2; ⟨u, q1, q2.mono hle, q3⟩, free := fun x u e eb => ?_ }
    by_cases e2 : G x = F x
    · exact ho.free x u (e2 ▸ e) eb
    · exact hb x e2 (by rw [eb])
theorem Rets.rr {B0 : Nat} {w0 : World} {φ0 : Phi} {F0 : FMem} {a : Act} {w : World} {φ : Phi} {s : St} {ps : List PV} {rs : List R1} (h : Rets s ps rs) : ∀ (F : FMem) (vs : List Value), Sim B0 w0 φ0 F0 s F φ a w → ps.length = vs.length →
    (∀ (i : Nat) (p : PV) (v : Value), ps[i]? = some p → vs[i]? = some v → VR F φ p v) →
    ∃ (F' : FMem) (bs : Nat → Option Nat), F.le F' ∧ FOK F' w ∧ (∀ x, F' x ≠ F x → ∃ b k sz, look b s.heap = some k ∧ φ b = some (x.block, sz)) ∧ rs.length = vs.length ∧
      (∀ (i : Nat) (r : R1) (v : Value), rs[i]? = some r → vs[i]? = some v → RR1 F' B0 w r v (bs i)) ∧ (∀ i j b, i ≠ j → bs i = some b → bs j ≠ some b) ∧
      (∀ i B, bs i = some B → ∃ b k sz, look b s.heap = some k ∧ φ b = some (B, sz)) := by
  induction h with
  | nil => intro F vs hs hl hv; exact ⟨F, fun _ => none, FMem.le_refl F, hs.fok, fun x h => absurd rfl h, hl, (fun i r v h => by simp at h), (fun i j b _ h => by cases h), (fun i B h => by cases h)⟩
  | tree h k ih =>
    intro F vs hs hl hv
    cases vs with
    | nil => simp at hl
    | cons v vs =>
      obtain ⟨F', bs, h1, h2, h3, h4, h5, h6, h7⟩ := ih F vs hs (by simpa using hl) (fun i p u hp hu => hv (i + 1) p u (by simpa using hp) (by simpa using hu))
      refine ⟨F', fun i => match i with | 0 => none | i + 1 => bs i, h1, h2, h3, by simp [h4], fun i r u hr hu => ?_, fun i j b hij hi hj => ?_, fun i B hi => ?_⟩
      · cases i with
        | zero => simp at hr hu; subst hr; subst hu; exact .t ((PV.toT_tr (hv 0 _ _ rfl rfl) h).mono h1)
        | succ i => exact h5 i r u (by simpa using hr) (by simpa using hu)
      · cases i with
        | zero => cases hi
        | succ i => cases j with
          | zero => cases hj
          | succ j => exact h6 i j b (by omega) hi hj
      · cases i with
        | zero => cases hi
        | succ i => exact h7 i B hi
  | @froz s b e off len cap ys fz ps rs hb hl' k ih =>
    intro F vs hs hl hv
    cases vs with
    | nil => simp at hl
    | cons v vs =>
      obtain ⟨F1, k1, k0, k2, k3⟩ := hs.freeze hb
      have back : ∀ c k, look c (s.upd b (.row e ys true)).heap = some k → ∃ k', look c s.heap = some k' := by
        intro c k hk
        simp only [St.upd, look] at hk
        split at hk
        · rename_i e1; subst e1; exact ⟨_, hb⟩
        · exact ⟨k, hk⟩
      obtain ⟨F', bs, h1, h2, h3, h4, h5, h6, h7⟩ := ih F1 vs k2 (by simpa using hl) (fun i p u hp hu => (hv (i + 1) p u (by simpa using hp) (by simpa using hu)).mono k1 (Phi.le_refl φ))
      refine ⟨F', fun i => match i with | 0 => none | i + 1 => bs i, FMem.le_trans k1 h1, h2, fun x hx => ?_, by simp [h4], fun i r u hr hu => ?_, fun i j b hij hi hj => ?_, fun i B hi => ?_⟩
      · by_cases e1 : F' x = F1 x
        · obtain ⟨sz, q⟩ := k0 x (fun e2 => hx (e1.trans e2)); exact ⟨b, _, sz, hb, q⟩
        · obtain ⟨c, k, sz, q1, q2⟩ := h3 x e1
          obtain ⟨k', q3⟩ := back c k q1
          exact ⟨c, k', sz, q3, q2⟩
      · cases i with
        | zero => simp at hr hu; subst hr; subst hu; exact .t ((k3 off len cap _ hl' (hv 0 _ _ rfl rfl)).mono h1)
        | succ i => exact h5 i r u (by simpa using hr) (by simpa using hu)
      · cases i with
        | zero => cases hi
        | succ i => cases j with
          | zero => cases hj
          | succ j => exact h6 i j b (by omega) hi hj
      · cases i with
        | zero => cases hi
        | succ i =>
          obtain ⟨c, k, sz, q1, q2⟩ := h7 i B hi
          obtain ⟨k', q3⟩ := back c k q1
          exact ⟨c, k', sz, q3, q2⟩
  | @own s b e len cap ys zs ps rs hb hl' hz k ih =>
    intro F vs hs hl hv
    subst hz
    cases vs with
    | nil => simp at hl
    | cons v vs =>
      have hv0 := hv 0 _ _ rfl rfl
      obtain ⟨B, cs, hlv⟩ := hs.heap b _ hb
      obtain ⟨ty, hty⟩ := hlv.cells
      have hwl : ∀ c k, look c (wipe b s.heap) = some k → c ≠ b ∧ look c s.heap = some k := by
        intro c k hk
        rw [look_wipe] at hk
        split at hk
        · cases hk
        · exact ⟨‹_›, hk⟩
      have hs' := hs.forget (l := wipe b s.heap) (fun c k hk => (hwl c k hk).2)
      obtain ⟨F', bs, h1, h2, h3, h4, h5, h6, h7⟩ := ih F vs hs' (by simpa using hl) (fun i p u hp hu => hv (i + 1) p u (by simpa using hp) (by simpa using hu))
      have hnb : ∀ c k sz, look c (wipe b s.heap) = some k → φ c = some (B, sz) → False := by
        intro c k sz q1 q2
        obtain ⟨q3, q4⟩ := hwl c k q1
        exact q3 (hs.inj c b k _ B _ _ q4 hb q2 hlv.at_)
      refine ⟨F', fun i => match i with | 0 => some B | i + 1 => bs i, h1, h2, fun x hx => ?_, by simp [h4], fun i r u hr hu => ?_, fun i j b' hij hi hj => ?_, fun i B' hi => ?_⟩
      · obtain ⟨c, k, sz, q1, q2⟩ := h3 x hx; exact ⟨c, k, sz, (hwl c k q1).2, q2⟩
      · cases i with
        | zero =>
          simp at hr hu; subst hr; subst hu
          cases hv0 with
          | @ref _ _ _ _ _ B' sz c hφ g1 g2 g3 =>
            have := hlv.at_; rw [hφ] at this; cases this
            cases hlv.reads with
            | row hn he hrd hF =>
              have hlen : (ys.take len).length = len := by simp; omega
              have hget : ∀ (i : Nat) (x : T), (ys.take len)[i]? = some x → ys[i]? = some x := by
                intro i x hx
                rw [List.getElem?_take] at hx
                split at hx
                · exact hx
                · cases hx
              refine RR1.own (c := c) (cs := cs) (ty := ty) ⟨by rw [hlen, Nat.zero_mul], hlv.old, by omega, by omega, hty, fun i x hx => he i x (hget i x hx), fun i x j p hx hp => ?_, fun x u e1 e2 => ?_⟩
              · obtain ⟨u, q1, q2, q3⟩ := hrd i x j p (hget i x hx) hp
                exact ⟨u, q1, q2.mono h1, q3⟩
              · by_cases e3 : F' x = F x
                · have := (hF x u (e3 ▸ e1) e2).1; cases this
                · obtain ⟨c2, k2, sz2, q1, q2⟩ := h3 x e3
                  exact hnb c2 k2 sz2 q1 (e2 ▸ q2)
        | succ i => exact h5 i r u (by simpa using hr) (by simpa using hu)
      · cases i with
        | zero =>
          cases hi
          cases j with
          | zero => exact hij rfl
          | succ j =>
            obtain ⟨c, k, sz, q1, q2⟩ := h7 j _ hj
            exact hnb c k sz q1 q2
        | succ i => cases j with
          | zero =>
            cases hj
            obtain ⟨c, k, sz, q1, q2⟩ := h7 i _ hi
            exact hnb c k sz q1 q2
          | succ j => exact h6 i j b' (by omega) hi hj
      · cases i with
        | zero => cases hi; exact ⟨b, _, _, hb, hlv.at_⟩
        | succ i =>
          obtain ⟨c, k, sz, q1, q2⟩ := h7 i B' hi
          exact ⟨c, k, sz, (hwl c k q1).2, q2⟩
/-- What a body has to come to. -/
def Comes1 (t : Tmp) (r : R1) (x : Ex) (s : St) : Prop := (x = .normal ∨ x = .ret) ∧ Rets s [s.ev (.tmp t)] [r]
def ComesN (ts : List Tmp) (rs : List R1) (x : Ex) (s : St) : Prop := (x = .normal ∨ x = .ret) ∧ Rets s (ts.map fun t => s.ev (.tmp t)) rs

theorem sim_init {F : FMem} {args : List T} {vs : Array Value} {w : World} {N : Nat} (hF : FOK F w) (hn : args.length = vs.size) (h : ∀ (i : Nat) (x : T) (v : Value), args[i]? = some x → vs[i]? = some v → TR F x v) (hN : vs.size ≤ N) :
    Sim w.heap.size w (fun _ => none) F ⟨initTm 0 args, N, [], 0, 0⟩ F (fun _ => none) { tmps := vs ++ Array.replicate (N - vs.size) undef, defers := [] } w := by
  refine ⟨Below.refl _ _, Nat.le_refl _, hF, FMem.le_refl F, fun x hx => absurd rfl hx, fun _ _ => rfl, Nat.le_refl _, fun _ _ => rfl, by simp; omega, rfl, fun i p hp => ?_, (fun b k hk => by cases hk), (fun b b' k k' B sz sz' hk => by cases hk)⟩
  obtain ⟨j, x, rfl, hx, rfl⟩ := look_init 0 args i p hp
  have hj : j < vs.size := by rw [← hn]; exact (List.getElem?_eq_some_iff.1 hx).1
  rw [Nat.zero_add, Array.getD_eq_getD_getElem?, Array.getElem?_append_left hj, Array.getElem?_eq_getElem hj]
  exact .t (h j x _ hx (Array.getElem?_eq_getElem hj))
theorem Pure.of1 {f : FuncId} {fn : Func} {c : Code} {args : List T} {t : Tmp} {r : R1} {N : Nat} (hf : P.funcs[f]? = some fn) (hb : fn.body = some c) (hN : fn.ntmps = N) (hle : args.length ≤ N) (hr : fn.results = #[.tmp t])
    (h : Tri P c (Comes1 t r) ⟨initTm 0 args, N, [], 0, 0⟩) : Pure P f args (.one r) := by
  intro F vs w hF hn hv
  refine calls_of_wp hf hb ?_
  rw [hN]
  have hs := sim_init (N := N) hF hn hv (by omega)
  refine wp_mono (h _ _ _ _ _ _ _ _ hs) ?_
  rintro e a' w' ⟨x, s', F', φ', rfl, ⟨hx, hq⟩, h1, h2, hs'⟩
  obtain ⟨G, bs, g1, g2, g3, g4, g5, g6, g7⟩ := hq.rr F' [a'.tmps.getD t undef] hs' rfl (fun i p v hp hv => by
    cases i with
    | zero => cases hp; cases hv; exact hs'.ev (.tmp t)
    | succ i => simp at hp)
  have hpost : bodyPost P fn (fun e w' => ∃ rv F', e = .returned rv ∧ F.le F' ∧ FOK F' w' ∧ (∀ a, F' a ≠ F a → w.heap.size ≤ a.block) ∧ Below w.heap.size w w' ∧ RR F' w.heap.size w' (.one r) rv) .normal a' w' := by
    refine bodyPost_end (results_tmp hr _ _ _) hs'.defers ⟨_, G, rfl, FMem.le_trans hs'.fle g1, g2, fun x hx => ?_, hs'.below, .one (g5 0 r _ rfl rfl)⟩
    by_cases e1 : G x = F' x
    · exact hs'.fnew x (fun e2 => hx (e1.trans e2))
    · obtain ⟨b, k, sz, q1, q2⟩ := g3 x e1
      obtain ⟨B, cs, hl⟩ := hs'.heap b k q1
      have := hl.at_; rw [q2] at this; cases this
      exact hl.old
  rcases hx with rfl | rfl
  · exact hpost
  · exact hpost
end Go.Proofs.YtaplmmhkpljmkaaDoor.E
