/- The engine: what is said of a function, and how it is called. -/
import Derived.Test.YtdiimgkopknbcaaGreatDoorK1
import Derived.Orders
namespace Go.Proofs.YtdiimgkopknbcaaGreatDoor.E
open Go Go.RowKit
set_option linter.unusedVariables false
set_option linter.unusedSimpArgs false

variable {P : Program}

/-- One result: a tree, or a new row that is the caller's own. -/
inductive R1 where
  | t (x : T)
  | own (e : Nat) (xs : List T)
inductive Res where
  | one (r : R1)
  | tup (rs : List R1)

structure OwnAt (F : FMem) (B : Nat) (w : World) (e : Nat) (xs : List T) (v : Value) (Bk : Nat) (c : Nat) (cs : Array Value) (ty : TypeId) : Prop where
  val : v = .slice (some ⟨Bk, 0, none⟩) xs.length c
  new : B ≤ Bk
  cap : xs.length ≤ c
  room : c * e ≤ cs.size
  at_ : w.heap[Bk]? = some (.cells cs ty (0, 0))
  he : ∀ (i : Nat) (x : T), xs[i]? = some x → x.leaves.length = e
  get : ∀ (i : Nat) (x : T) (j : Nat) (p : T), xs[i]? = some x → x.leaves[j]? = some p → ∃ u, cs[i * e + j]? = some u ∧ TR F p u ∧ u.oneCell' = true
  free : ∀ a u, F a = some u → a.block ≠ Bk
inductive RR1 (F : FMem) (B : Nat) (w : World) : R1 → Value → Option Nat → Prop
  | t {x : T} {v : Value} (h : TR F x v) : RR1 F B w (.t x) v none
  | own {e : Nat} {xs : List T} {v : Value} {Bk c : Nat} {cs : Array Value} {ty : TypeId} (h : OwnAt F B w e xs v Bk c cs ty) : RR1 F B w (.own e xs) v (some Bk)
inductive RR (F : FMem) (B : Nat) (w : World) : Res → Value → Prop
  | one {r : R1} {v : Value} {b : Option Nat} (h : RR1 F B w r v b) : RR F B w (.one r) v
  | tup {rs : List R1} {vs : Array Value} (bs : Nat → Option Nat) (hn : rs.length = vs.size) (h : ∀ (i : Nat) (r : R1) (v : Value), rs[i]? = some r → vs[i]? = some v → RR1 F B w r v (bs i))
      (hd : ∀ i j b, i ≠ j → bs i = some b → bs j ≠ some b) (hb : ∀ i b, bs i = some b → B ≤ b) : RR F B w (.tup rs) (.tuple vs)

/-- WHAT A FUNCTION ANSWERS: to such trees, this. -/
def Pure (P : Program) (f : FuncId) (args : List T) (r : Res) : Prop :=
  ∀ (F : FMem) (vs : Array Value) (w : World), FOK F w → args.length = vs.size → (∀ (i : Nat) (x : T) (v : Value), args[i]? = some x → vs[i]? = some v → TR F x v) →
    Calls P f vs w fun e w' => ∃ rv F', e = .returned rv ∧ F.le F' ∧ FOK F' w' ∧ (∀ a, F' a ≠ F a → w.heap.size ≤ a.block) ∧ Below w.heap.size w w' ∧ RR F' w.heap.size w' r rv

/-! ### more is known of memory for good -/
section
variable {B0 : Fr} {w0 : World} {φ0 : Phi} {F0 : FMem} {s : St} {F : FMem} {φ : Phi} {a : Act} {w : World}
theorem Sim.more (h : Sim B0 w0 φ0 F0 s F φ a w) {F' : FMem} (hle : F.le F') (hok : FOK F' w) (hnew : ∀ x, F' x ≠ F x → ¬ B0 x.block) (hfree : ∀ b k B sz, look b s.heap = some k → φ b = some (B, sz) → ∀ x, F' x ≠ F x → x.block ≠ B) : Sim B0 w0 φ0 F0 s F' φ a w := by
  refine ⟨h.below, h.base, hok, FMem.le_trans h.fle hle, fun x hx => ?_, h.phi0, h.lo, h.fresh, h.size, h.defers, fun i p hp => (h.tm i p hp).mono hle (Phi.le_refl φ), fun b k hk => ?_, h.inj⟩
  · by_cases e : F' x = F x
    · exact h.fnew x (fun e2 => hx (e.trans e2))
    · exact hnew x e
  · obtain ⟨B, cs, hl⟩ := h.heap b k hk
    refine ⟨B, cs, hl.to rfl hl.at_ hl.old hle (Phi.le_refl φ) ?_⟩
    have hf := hfree b k B _ hk hl.at_
    cases hl.reads with
    | obj hn hr hF =>
      refine .obj hn (fun i p hp => let ⟨u, h1, h2⟩ := hr i p hp; ⟨u, h1, h2.mono hle (Phi.le_refl φ)⟩) (fun x u e => ?_)
      by_cases e2 : F' x = F x
      · exact hF x u (e2 ▸ e)
      · exact hf x e2
    | row hn he hr hF =>
      refine .row hn he (fun i y j p h1 h2 => let ⟨u, h3, h4, h5⟩ := hr i y j p h1 h2; ⟨u, h3, h4.mono hle, h5⟩) (fun x u e eb => ?_)
      by_cases e2 : F' x = F x
      · exact hF x u (e2 ▸ e) eb
      · exact absurd eb (hf x e2)
    | map hF =>
      refine .map fun x u e => ?_
      by_cases e2 : F' x = F x
      · exact hF x u (e2 ▸ e)
      · exact hf x e2

/-- A row of our own is not written any more. -/
theorem Sim.freeze (h : Sim B0 w0 φ0 F0 s F φ a w) {b e : Nat} {xs : List T} {fz : Bool} (hb : look b s.heap = some (.row e xs fz)) :
    ∃ F', F.le F' ∧ (∀ x, F' x ≠ F x → ∃ sz, φ b = some (x.block, sz)) ∧ Sim B0 w0 φ0 F0 (s.upd b (.row e xs true)) F' φ a w ∧
      ∀ off len cap v, off + len ≤ xs.length → VR F φ (.ref b e off len cap) v → TR F' (.sl false ((xs.drop off).take len)) v := by
  obtain ⟨B, cs, hl⟩ := h.heap b _ hb
  obtain ⟨t, ht⟩ := hl.cells rfl
  let F' : FMem := fun x => if x.block = B ∧ x.spot = none ∧ x.off < xs.length * e then w.cell? x else F x
  have hin : ∀ x, (x.block = B ∧ x.spot = none ∧ x.off < xs.length * e) → F' x = w.cell? x := fun x hx => if_pos hx
  have hout : ∀ x, ¬ (x.block = B ∧ x.spot = none ∧ x.off < xs.length * e) → F' x = F x := fun x hx => if_neg hx
  have hle : F.le F' := by
    intro x u e1
    by_cases hx : x.block = B ∧ x.spot = none ∧ x.off < xs.length * e
    · rw [hin x hx]; exact (h.fok x u e1).1
    · rw [hout x hx]; exact e1
  have hcell : ∀ x : Addr, x.block = B → x.spot = none → w.cell? x = cs[x.off]? := by
    intro x hx hs
    have : x = ⟨B, x.off, none⟩ := by cases x; simp_all
    rw [this, cell_at ht]
  have hok : FOK F' w := by
    refine h.fok.grow hle ?_ (fun _ _ _ _ _ _ h2 => h2)
    intro x u e1
    by_cases hx : x.block = B ∧ x.spot = none ∧ x.off < xs.length * e
    · rw [hin x hx] at e1
      refine ⟨e1, ?_⟩
      rw [hcell x hx.1 hx.2.1] at e1
      obtain ⟨u', h1, h2⟩ := hl.reads.ones x.off hx.2.2
      rw [e1] at h1; cases h1; exact h2
    · rw [hout x hx] at e1; exact h.fok x u e1
  have hne : ∀ x, F' x ≠ F x → x.block = B := by
    intro x hx
    by_cases hc : x.block = B ∧ x.spot = none ∧ x.off < xs.length * e
    · exact hc.1
    · exact absurd (hout x hc) hx
  have hrow : RowAt F' xs B 0 e (fun i j => cs.getD (i * e + j) undef) := by
    cases hl.reads with
    | row hn he hr hF =>
      have key : ∀ (i : Nat) (x : T) (j : Nat) (p : T), xs[i]? = some x → x.leaves[j]? = some p → cs[i * e + j]? = some (cs.getD (i * e + j) undef) ∧ TR F p (cs.getD (i * e + j) undef) ∧ i * e + j < xs.length * e := by
        intro i x j p h1 h2
        obtain ⟨u, h3, h4, _⟩ := hr i x j p h1 h2
        have hu : cs.getD (i * e + j) undef = u := by rw [Array.getD_eq_getD_getElem?, h3]; rfl
        have hi := (List.getElem?_eq_some_iff.1 h1).1
        have hj := (List.getElem?_eq_some_iff.1 h2).1
        rw [he i x h1] at hj
        have : (i + 1) * e ≤ xs.length * e := Nat.mul_le_mul_right e hi
        rw [Nat.add_mul] at this
        exact ⟨hu ▸ h3, hu ▸ h4, by omega⟩
      refine ⟨he, fun i x j p h1 h2 => ?_, fun i x j p h1 h2 => (key i x j p h1 h2).2.1.mono hle⟩
      obtain ⟨k1, _, k3⟩ := key i x j p h1 h2
      rw [Nat.zero_add, hin _ ⟨rfl, rfl, k3⟩, cell_at ht]; exact k1
  refine ⟨F', hle, fun x hx => ⟨cs.size, by rw [hne x hx]; exact hl.at_⟩, ?_, fun off len cap v hol hv => ?_⟩
  · refine ⟨h.below, h.base, hok, FMem.le_trans h.fle hle, fun x hx => ?_, h.phi0, h.lo, h.fresh, h.size, h.defers, fun i p hp => (h.tm i p hp).mono hle (Phi.le_refl φ), fun b2 k2 hk2 => ?_, fun b1 b2 k1 k2 B2 s1 s2 g1 g2 g3 g4 => ?_⟩
    · by_cases e1 : F' x = F x
      · exact h.fnew x (fun e2 => hx (e1.trans e2))
      · rw [hne x e1]; exact hl.old
    · simp only [St.upd, look] at hk2
      split at hk2
      · rename_i e1; subst e1; cases hk2
        refine ⟨B, cs, hl.at_, hl.old, hl.cells, fun t e => (by cases e), fun es e => (by cases e), ?_⟩
        cases hl.reads with
        | row hn he hr hF =>
          refine .row hn he (fun i y j p h1 h2 => let ⟨u, h3, h4, h5⟩ := hr i y j p h1 h2; ⟨u, h3, h4.mono hle, h5⟩) (fun x u e1 e2 => ⟨rfl, ?_⟩)
          by_cases hc : x.block = B ∧ x.spot = none ∧ x.off < xs.length * e
          · exact hc.2.2
          · rw [hout x hc] at e1; exact (hF x u e1 e2).2
      · rename_i e1
        obtain ⟨B2, cs2, hl2⟩ := h.heap b2 k2 hk2
        have hB : B2 ≠ B := fun e2 => e1 (h.inj b2 b k2 _ B _ _ hk2 hb (e2 ▸ hl2.at_) hl.at_)
        refine ⟨B2, cs2, hl2.to rfl hl2.at_ hl2.old hle (Phi.le_refl φ) ?_⟩
        have hsame : ∀ x u, F' x = some u → x.block = B2 → F x = some u := by
          intro x u e2 e3
          rw [hout x (fun hc => hB (e3.symm.trans hc.1))] at e2; exact e2
        cases hl2.reads with
        | obj hn hr hF => exact .obj hn (fun i p hp => let ⟨u, h1, h2⟩ := hr i p hp; ⟨u, h1, h2.mono hle (Phi.le_refl φ)⟩) (fun x u e2 e3 => hF x u (hsame x u e2 e3) e3)
        | row hn he hr hF => exact .row hn he (fun i y j p h1 h2 => let ⟨u, h3, h4, h5⟩ := hr i y j p h1 h2; ⟨u, h3, h4.mono hle, h5⟩) (fun x u e2 e3 => hF x u (hsame x u e2 e3) e3)
        | map hF => exact .map fun x u e2 e3 => hF x u (hsame x u e2 e3) e3
    · have back : ∀ c k, look c ((b, Blk.row e xs true) :: s.heap) = some k → ∃ k', look c s.heap = some k' := by
        intro c k hk
        simp only [look] at hk
        split at hk
        · rename_i e1; subst e1; exact ⟨_, hb⟩
        · exact ⟨k, hk⟩
      obtain ⟨k1', g1'⟩ := back b1 k1 g1
      obtain ⟨k2', g2'⟩ := back b2 k2 g2
      exact h.inj b1 b2 k1' k2' B2 s1 s2 g1' g2' g3 g4
  · cases hv with
    | @ref _ _ _ _ _ B' sz c hφ h1 h2 h3 =>
      have := hl.at_; rw [hφ] at this; cases this
      have hp := hrow.part off len
      have hlen : ((xs.drop off).take len).length = len := by simp; omega
      have := hp.tr (c := c) (by rw [hlen]; omega)
      rw [hlen, Nat.zero_add] at this
      exact this
end

/-- Arguments: trees, or rows of our own that are lent. -/
inductive Lend : St → List PV → List T → St → Prop
  | nil {s : St} : Lend s [] [] s
  | tree {s s1 : St} {p : PV} {ps : List PV} {x : T} {xs : List T} (h : p.toT = some x) (k : Lend s ps xs s1) : Lend s (p :: ps) (x :: xs) s1
  | ref {s s1 : St} {b e off len cap : Nat} {ys : List T} {fz : Bool} {ps : List PV} {xs : List T} (hb : look b s.heap = some (.row e ys fz)) (hl : off + len ≤ ys.length) (k : Lend (s.upd b (.row e ys true)) ps xs s1) :
      Lend s (.ref b e off len cap :: ps) (.sl false ((ys.drop off).take len) :: xs) s1
theorem Lend.sim {B0 : Fr} {w0 : World} {φ0 : Phi} {F0 : FMem} {a : Act} {w : World} {φ : Phi} {s s1 : St} {ps : List PV} {xs : List T} (h : Lend s ps xs s1) : ∀ (F : FMem) (vs : List Value), Sim B0 w0 φ0 F0 s F φ a w → ps.length = vs.length →
    (∀ (i : Nat) (p : PV) (v : Value), ps[i]? = some p → vs[i]? = some v → VR F φ p v) →
    s1.lo = s.lo ∧ s1.N = s.N ∧ s1.n = s.n ∧ s1.tm = s.tm ∧ ∃ F', F.le F' ∧ Sim B0 w0 φ0 F0 s1 F' φ a w ∧ xs.length = vs.length ∧ ∀ (i : Nat) (x : T) (v : Value), xs[i]? = some x → vs[i]? = some v → TR F' x v := by
  induction h with
  | nil => intro F vs hs hl hv; exact ⟨rfl, rfl, rfl, rfl, F, FMem.le_refl F, hs, hl, fun i x v h => by simp at h⟩
  | tree h k ih =>
    intro F vs hs hl hv
    cases vs with
    | nil => simp at hl
    | cons v vs =>
      obtain ⟨g1, g2, g3, g4, F', h1, h2, h3, h4⟩ := ih F vs hs (by simpa using hl) (fun i p u hp hu => hv (i + 1) p u (by simpa using hp) (by simpa using hu))
      refine ⟨g1, g2, g3, g4, F', h1, h2, by simp [h3], fun i x u hx hu => ?_⟩
      cases i with
      | zero => simp at hx hu; subst hx; subst hu; exact (PV.toT_tr (hv 0 _ _ rfl rfl) h).mono h1
      | succ i => exact h4 i x u (by simpa using hx) (by simpa using hu)
  | @ref s s1 b e off len cap ys fz ps xs hb hl' k ih =>
    intro F vs hs hl hv
    cases vs with
    | nil => simp at hl
    | cons v vs =>
      obtain ⟨F1, k1, _, k2, k3⟩ := hs.freeze hb
      obtain ⟨g1, g2, g3, g4, F', h1, h2, h3, h4⟩ := ih F1 vs k2 (by simpa using hl) (fun i p u hp hu => (hv (i + 1) p u (by simpa using hp) (by simpa using hu)).mono k1 (Phi.le_refl φ))
      refine ⟨g1, g2, g3, g4, F', FMem.le_trans k1 h1, h2, by simp [h3], fun i x u hx hu => ?_⟩
      cases i with
      | zero => simp at hx hu; subst hx; subst hu; exact (k3 off len cap _ hl' (hv 0 _ _ rfl rfl)).mono h1
      | succ i => exact h4 i x u (by simpa using hx) (by simpa using hu)

/-! ### what a call leaves -/
def St.adopt (s : St) : R1 → St × PV
  | .t x => (s, .t x)
  | .own e xs => (s.alloc (.row e xs false), .ref s.n e 0 xs.length xs.length)
def St.adopts (s : St) : List R1 → St × List PV
  | [] => (s, [])
  | r :: rs => (((s.adopt r).1.adopts rs).1, (s.adopt r).2 :: ((s.adopt r).1.adopts rs).2)
def St.got (s : St) (d : Nat) : Res → St
  | .one r => (s.adopt r).1.put d (s.adopt r).2
  | .tup rs => (s.adopts rs).1.put d (.tup (s.adopts rs).2)
section
variable {B0 : Fr} {w0 : World} {φ0 : Phi} {F0 : FMem} {s : St} {F : FMem} {φ : Phi} {a : Act} {w : World}
/-- A block that a callee has laid. -/
theorem Sim.adopt (h : Sim B0 w0 φ0 F0 s F φ a w) {B : Nat} {r : R1} {v : Value} {bk : Option Nat} (hr : RR1 F B w r v bk) (hB : ∀ k, B0 k → k < B) (hfree : ∀ b k B' sz, look b s.heap = some k → φ b = some (B', sz) → bk ≠ some B') :
    (s.adopt r).1.lo = s.lo ∧ (s.adopt r).1.N = s.N ∧ ∃ φ', φ.le φ' ∧ Sim B0 w0 φ0 F0 (s.adopt r).1 F φ' a w ∧ VR F φ' (s.adopt r).2 v ∧
      ∀ b k B' sz, look b (s.adopt r).1.heap = some k → φ' b = some (B', sz) → (∃ k', look b s.heap = some k' ∧ φ b = some (B', sz)) ∨ bk = some B' := by
  cases hr with
  | t ht => exact ⟨rfl, rfl, φ, Phi.le_refl φ, h, .t ht, fun b k B' sz h1 h2 => .inl ⟨k, h1, h2⟩⟩
  | @own e xs v Bk c cs ty ho =>
    have hle : φ.le (φ.new s.n (Bk, cs.size)) := Phi.le_new (h.fresh _ (Nat.le_refl _))
    have hb1 : xs.length * e ≤ cs.size := Nat.le_trans (Nat.mul_le_mul_right e ho.cap) ho.room
    refine ⟨rfl, rfl, _, hle, ⟨h.below, h.base, h.fok, h.fle, h.fnew, fun b hb => ?_, Nat.le_succ_of_le h.lo, fun b hb => ?_, h.size, h.defers, fun i p hp => (h.tm i p hp).mono (FMem.le_refl F) hle, fun b k hk => ?_, fun b1 b2 k1 k2 B2 s1 s2 g1 g2 g3 g4 => ?_⟩, ?_, fun b k B' sz h1 h2 => ?_⟩
    · have := h.lo
      simp only [St.adopt, St.alloc] at hb
      rw [Phi.new, if_neg (by omega)]; exact h.phi0 b hb
    · simp only [St.adopt, St.alloc] at hb
      rw [Phi.new, if_neg (by omega)]; exact h.fresh b (by omega)
    · simp only [St.adopt, St.alloc, look] at hk
      split at hk
      · rename_i e1; subst e1; cases hk
        exact ⟨Bk, cs, if_pos rfl, (fun hk => Nat.not_lt.2 ho.new (hB _ hk)), fun _ => ⟨ty, ho.at_⟩, fun t e => (by cases e), fun es e => (by cases e), .row hb1 ho.he (fun i y j p q1 q2 => ho.get i y j p q1 q2) (fun x u e1 e2 => absurd e2 (ho.free x u e1))⟩
      · obtain ⟨B2, cs2, hl2⟩ := h.heap b k hk
        exact ⟨B2, cs2, hl2.to rfl (hle _ _ hl2.at_) hl2.old (FMem.le_refl F) hle (hl2.reads.mono hle)⟩
    · simp only [St.adopt, St.alloc, look] at g1 g2
      by_cases e1 : b1 = s.n <;> by_cases e2 : b2 = s.n
      · rw [e1, e2]
      · rw [Phi.new, if_pos e1] at g3; rw [Phi.new, if_neg e2] at g4; rw [if_neg e2] at g2
        cases g3; exact absurd rfl (hfree b2 k2 _ _ g2 g4)
      · rw [Phi.new, if_pos e2] at g4; rw [Phi.new, if_neg e1] at g3; rw [if_neg e1] at g1
        cases g4; exact absurd rfl (hfree b1 k1 _ _ g1 g3)
      · rw [Phi.new, if_neg e1] at g3; rw [Phi.new, if_neg e2] at g4; rw [if_neg e1] at g1; rw [if_neg e2] at g2
        exact h.inj b1 b2 k1 k2 B2 s1 s2 g1 g2 g3 g4
    · rw [ho.val]
      have := VR.ref (F := F) (φ := φ.new s.n (Bk, cs.size)) (b := s.n) (e := e) (off := 0) (len := xs.length) (cap := xs.length) (B := Bk) (sz := cs.size) (c := c) (if_pos rfl) (Nat.le_refl _) ho.cap (by have := ho.room; omega)
      simpa [St.adopt] using this
    · simp only [St.adopt, St.alloc, look] at h1
      by_cases e1 : b = s.n
      · rw [Phi.new, if_pos e1] at h2; cases h2; exact .inr rfl
      · rw [Phi.new, if_neg e1] at h2; rw [if_neg e1] at h1; exact .inl ⟨k, h1, h2⟩
theorem Sim.adopts {B : Nat} (hB : ∀ k, B0 k → k < B) : ∀ (rs : List R1) (vs : List Value) (bs : Nat → Option Nat) (s : St) (φ : Phi), Sim B0 w0 φ0 F0 s F φ a w → rs.length = vs.length →
    (∀ (i : Nat) (r : R1) (v : Value), rs[i]? = some r → vs[i]? = some v → RR1 F B w r v (bs i)) → (∀ i j b, i ≠ j → bs i = some b → bs j ≠ some b) →
    (∀ b k B' sz i, look b s.heap = some k → φ b = some (B', sz) → bs i ≠ some B') →
    (s.adopts rs).1.lo = s.lo ∧ (s.adopts rs).1.N = s.N ∧ ∃ φ', φ.le φ' ∧ Sim B0 w0 φ0 F0 (s.adopts rs).1 F φ' a w ∧ (s.adopts rs).2.length = vs.length ∧ ∀ (i : Nat) (p : PV) (v : Value), (s.adopts rs).2[i]? = some p → vs[i]? = some v → VR F φ' p v
  | [], vs, bs, s, φ, h, hl, _, _, _ => ⟨rfl, rfl, φ, Phi.le_refl φ, h, hl, fun i p v h => by simp [St.adopts] at h⟩
  | r :: rs, [], bs, s, φ, h, hl, _, _, _ => by simp at hl
  | r :: rs, v :: vs, bs, s, φ, h, hl, hr, hd, hf => by
    obtain ⟨l1, l2, φ1, k1, k2, k3, k4⟩ := h.adopt (hr 0 r v rfl rfl) hB (fun b k B' sz h1 h2 => hf b k B' sz 0 h1 h2)
    obtain ⟨m1, m2, φ2, n1, n2, n3, n4⟩ := Sim.adopts hB rs vs (fun i => bs (i + 1)) (s.adopt r).1 φ1 k2 (by simpa using hl) (fun i r' v' q1 q2 => hr (i + 1) r' v' (by simpa using q1) (by simpa using q2))
      (fun i j b q1 q2 => hd (i + 1) (j + 1) b (by omega) q2)
      (fun b k B' sz i q1 q2 => by
        rcases k4 b k B' sz q1 q2 with ⟨k', q3, q4⟩ | q3
        · exact hf b k' B' sz (i + 1) q3 q4
        · exact hd 0 (i + 1) B' (by omega) q3)
    refine ⟨m1.trans l1, m2.trans l2, φ2, Phi.le_trans k1 n1, n2, by simp [St.adopts, n3], fun i p u hp hu => ?_⟩
    cases i with
    | zero => simp [St.adopts] at hp hu; subst hp; subst hu; exact k3.mono (FMem.le_refl F) n1
    | succ i => exact n4 i p u (by simpa [St.adopts] using hp) (by simpa using hu)
end
/-- A function that may be called. -/
class FnIs (P : Program) (f : FuncId) : Prop where
  is : ∃ fn, P.funcs[f]? = some fn ∧ fn.body.isNone = false ∧ (fn.name == "runtime.NumGoroutine") = false
theorem FnIs.of {f : FuncId} {fn : Func} (h : P.funcs[f]? = some fn) (hb : fn.body.isNone = false) (hn : (fn.name == "runtime.NumGoroutine") = false) : FnIs P f := ⟨fn, h, hb, hn⟩
theorem callFunc_run {f : FuncId} (h : FnIs P f) (args : Array Value) (w : World) : (callFunc f args).run P w = .ok (.enter f args) w := by
  obtain ⟨fn, h1, h2, h3⟩ := h.is
  simp only [callFunc, Sem.run_bind, program, Sem.run, Result.andThen_ok, h1, h3, h2, Bool.false_eq_true, if_false, Sem.run_pure]
section ops
variable {d ty : Nat} {pos : String} {af : Array Edge} {g : Option (Nat × Bool)} {K : St → Prop} {s : St}
/-- A call. -/
theorem TriO.call {x : Operand} {f : FuncId} {xs : List Operand} {ts : Array TypeId} {ps : List PV} {targs : List T} {s1 : St} {r : Res} [hf : FnIs P f] (hx : s.ev x = .t (.v (.func (.func f) #[] #[]))) (hp : xs.map s.ev = ps) (hl : Lend s ps targs s1) (hr : Pure P f targs r) (hN : Nat.blt d s.N = true)
    (hK : K (s1.got d r)) : TriO P ⟨some d, .call ⟨.value x, xs.toArray, ts⟩, ty, pos, af, g⟩ K s := by
  intro B0 w0 φ0 F0 F φ a w hs next Q hQ
  have hfn := (evv0 hs hx).1
  obtain ⟨g1, g2, g3, g4, F1, k1, k2, k3, k4⟩ := hl.sim F (xs.map a.eval) hs (by rw [← hp]; simp) (fun i p v h1 h2 => by
    rw [← hp] at h1
    simp only [List.getElem?_map, Option.map_eq_some_iff] at h1 h2
    obtain ⟨y, hy, rfl⟩ := h1
    obtain ⟨z, hz, rfl⟩ := h2
    rw [hy] at hz; cases hz
    exact hs.ev y)
  have hrun : (execOp a.eval ⟨some d, .call ⟨.value x, xs.toArray, ts⟩, ty, pos, af, g⟩).run P w = .ok (.enter f (xs.map a.eval).toArray) w := by
    simp [execOp, resolve, hfn, Deferred.ofValue, invoke, callFunc_run hf]
  simp only [Oper.wp, hrun, Oper.upon]
  refine (hr F1 (xs.map a.eval).toArray w k2.fok (by simpa using k3) (fun i x v h1 h2 => k4 i x v h1 (by simpa using h2))).mono ?_
  rintro e w' ⟨rv, F2, rfl, h1, h2, h3, h4, h5⟩
  have hsim : Sim B0 w0 φ0 F0 s1 F2 φ a w' := by
    have hb1 : Sim B0 w0 φ0 F0 s1 F1 φ a w' := k2.world (.of h4 k2.base_le) (fun b k B sz q1 q2 => h4.block B (k2.block_lt q1 q2)) (k2.fok.grow (FMem.le_refl _) (fun x u e1 => by
      obtain ⟨q1, q2⟩ := k2.fok x u e1
      exact ⟨by rw [h4.cell (cell_lt q1)]; exact q1, q2⟩) fun g j u n _ e h2 => szW_block (h4.block g (cell_lt e)) h2)
    exact hb1.more h1 h2 (fun x hx => k2.base_new (h3 x hx)) (fun b k B sz q1 q2 x hx => by have := h3 x hx; have := k2.block_lt q1 q2; omega)
  have hsz := k2.base_le
  cases h5 with
  | one hr1 =>
    obtain ⟨l1, l2, φ', m1, m2, m3, _⟩ := hsim.adopt hr1 hsz (fun b k B' sz q1 q2 e => by
      cases hr1 with
      | t => cases e
      | own ho => cases e; have := ho.new; have := k2.block_lt q1 q2; omega)
    exact hQ _ _ φ' _ _ hK (l1.trans g1) (l2.trans g2) (m2.put (by rw [l2, g2]; simpa [Nat.blt_eq] using hN) m3)
  | @tup rs vs bs hn hr1 hd hb =>
    obtain ⟨l1, l2, φ', m1, m2, m3, m4⟩ := Sim.adopts hsz rs vs.toList bs s1 φ hsim (by simpa using hn) (fun i r v q1 q2 => hr1 i r v q1 (by simpa using q2)) hd (fun b k B' sz i q1 q2 e => by
      have hlt := k2.block_lt q1 q2
      have := hb i B' e
      omega)
    exact hQ _ _ φ' _ _ hK (l1.trans g1) (l2.trans g2) (m2.put (by rw [l2, g2]; simpa [Nat.blt_eq] using hN) (.tup (by simpa using m3) (fun i p u q1 q2 => m4 i p u q1 (by simpa using q2))))
end ops

/-! ### a function's contract out of its body -/
def initTm : Nat → List T → List (Nat × PV)
  | _, [] => []
  | k, x :: xs => (k, .t x) :: initTm (k + 1) xs
theorem look_init : ∀ (k : Nat) (xs : List T) (i : Nat) (p : PV), look i (initTm k xs) = some p → ∃ j x, i = k + j ∧ xs[j]? = some x ∧ p = .t x
  | _, [], _, _, h => by cases h
  | k, x :: xs, i, p, h => by
    simp only [initTm, look] at h
    split at h
    · cases h; exact ⟨0, x, by omega, rfl, rfl⟩
    · obtain ⟨j, y, h1, h2, h3⟩ := look_init (k + 1) xs i p h
      exact ⟨j + 1, y, by omega, by simpa using h2, h3⟩
/-- What stands in the results' temporaries, as it is handed back. -/
inductive Rets : St → List PV → List R1 → Prop
  | nil {s : St} : Rets s [] []
  | tree {s : St} {p : PV} {ps : List PV} {x : T} {rs : List R1} (h : p.toT = some x) (k : Rets s ps rs) : Rets s (p :: ps) (.t x :: rs)
  | froz {s : St} {b e off len cap : Nat} {ys : List T} {fz : Bool} {ps : List PV} {rs : List R1} (hb : look b s.heap = some (.row e ys fz)) (hl : off + len ≤ ys.length) (k : Rets (s.upd b (.row e ys true)) ps rs) :
      Rets s (.ref b e off len cap :: ps) (.t (.sl false ((ys.drop off).take len)) :: rs)
  | own {s : St} {b e len cap : Nat} {ys zs : List T} {ps : List PV} {rs : List R1} (hb : look b s.heap = some (.row e ys false)) (hl : len ≤ ys.length) (hz : ys.take len = zs) (k : Rets { s with heap := wipe b s.heap } ps rs) :
      Rets s (.ref b e 0 len cap :: ps) (.own e zs :: rs)
theorem RR1.mono {F G : FMem} {B : Nat} {w : World} {r : R1} {v : Value} {b : Option Nat} (h : RR1 F B w r v b) (hle : F.le G) (hb : ∀ x, G x ≠ F x → b ≠ some x.block) : RR1 G B w r v b := by
  cases h with
  | t h => exact .t (h.mono hle)
  | own ho =>
    refine .own { ho with get := fun i x j p h1 h2 => let ⟨u, q1, q2, q3⟩ := ho.get i x j p h1 h2; ⟨u, q1, q2.mono hle, q3⟩, free := fun x u e eb => ?_ }
    by_cases e2 : G x = F x
    · exact ho.free x u (e2 ▸ e) eb
    · exact hb x e2 (by rw [eb])
theorem Rets.rr {B0 : Nat} {w0 : World} {φ0 : Phi} {F0 : FMem} {a : Act} {w : World} {φ : Phi} {s : St} {ps : List PV} {rs : List R1} (h : Rets s ps rs) : ∀ (F : FMem) (vs : List Value), Sim ⟨(· < B0), []⟩ w0 φ0 F0 s F φ a w → ps.length = vs.length →
    (∀ (i : Nat) (p : PV) (v : Value), ps[i]? = some p → vs[i]? = some v → VR F φ p v) →
    ∃ (F' : FMem) (bs : Nat → Option Nat), F.le F' ∧ FOK F' w ∧ (∀ x, F' x ≠ F x → ∃ b k sz, look b s.heap = some k ∧ φ b = some (x.block, sz)) ∧ rs.length = vs.length ∧
      (∀ (i : Nat) (r : R1) (v : Value), rs[i]? = some r → vs[i]? = some v → RR1 F' B0 w r v (bs i)) ∧ (∀ i j b, i ≠ j → bs i = some b → bs j ≠ some b) ∧
      (∀ i B, bs i = some B → ∃ b k sz, look b s.heap = some k ∧ φ b = some (B, sz)) := by
  induction h with
  | nil => intro F vs hs hl hv; exact ⟨F, fun _ => none, FMem.le_refl F, hs.fok, fun x h => absurd rfl h, hl, (fun i r v h => by simp at h), (fun i j b _ h => by cases h), (fun i B h => by cases h)⟩
  | tree h k ih =>
    intro F vs hs hl hv
    cases vs with
    | nil => simp at hl
    | cons v vs =>
      obtain ⟨F', bs, h1, h2, h3, h4, h5, h6, h7⟩ := ih F vs hs (by simpa using hl) (fun i p u hp hu => hv (i + 1) p u (by simpa using hp) (by simpa using hu))
      refine ⟨F', fun i => match i with | 0 => none | i + 1 => bs i, h1, h2, h3, by simp [h4], fun i r u hr hu => ?_, fun i j b hij hi hj => ?_, fun i B hi => ?_⟩
      · cases i with
        | zero => simp at hr hu; subst hr; subst hu; exact .t ((PV.toT_tr (hv 0 _ _ rfl rfl) h).mono h1)
        | succ i => exact h5 i r u (by simpa using hr) (by simpa using hu)
      · cases i with
        | zero => cases hi
        | succ i => cases j with
          | zero => cases hj
          | succ j => exact h6 i j b (by omega) hi hj
      · cases i with
        | zero => cases hi
        | succ i => exact h7 i B hi
  | @froz s b e off len cap ys fz ps rs hb hl' k ih =>
    intro F vs hs hl hv
    cases vs with
    | nil => simp at hl
    | cons v vs =>
      obtain ⟨F1, k1, k0, k2, k3⟩ := hs.freeze hb
      have back : ∀ c k, look c (s.upd b (.row e ys true)).heap = some k → ∃ k', look c s.heap = some k' := by
        intro c k hk
        simp only [St.upd, look] at hk
        split at hk
        · rename_i e1; subst e1; exact ⟨_, hb⟩
        · exact ⟨k, hk⟩
      obtain ⟨F', bs, h1, h2, h3, h4, h5, h6, h7⟩ := ih F1 vs k2 (by simpa using hl) (fun i p u hp hu => (hv (i + 1) p u (by simpa using hp) (by simpa using hu)).mono k1 (Phi.le_refl φ))
      refine ⟨F', fun i => match i with | 0 => none | i + 1 => bs i, FMem.le_trans k1 h1, h2, fun x hx => ?_, by simp [h4], fun i r u hr hu => ?_, fun i j b hij hi hj => ?_, fun i B hi => ?_⟩
      · by_cases e1 : F' x = F1 x
        · obtain ⟨sz, q⟩ := k0 x (fun e2 => hx (e1.trans e2)); exact ⟨b, _, sz, hb, q⟩
        · obtain ⟨c, k, sz, q1, q2⟩ := h3 x e1
          obtain ⟨k', q3⟩ := back c k q1
          exact ⟨c, k', sz, q3, q2⟩
      · cases i with
        | zero => simp at hr hu; subst hr; subst hu; exact .t ((k3 off len cap _ hl' (hv 0 _ _ rfl rfl)).mono h1)
        | succ i => exact h5 i r u (by simpa using hr) (by simpa using hu)
      · cases i with
        | zero => cases hi
        | succ i => cases j with
          | zero => cases hj
          | succ j => exact h6 i j b (by omega) hi hj
      · cases i with
        | zero => cases hi
        | succ i =>
          obtain ⟨c, k, sz, q1, q2⟩ := h7 i B hi
          obtain ⟨k', q3⟩ := back c k q1
          exact ⟨c, k', sz, q3, q2⟩
  | @own s b e len cap ys zs ps rs hb hl' hz k ih =>
    intro F vs hs hl hv
    subst hz
    cases vs with
    | nil => simp at hl
    | cons v vs =>
      have hv0 := hv 0 _ _ rfl rfl
      obtain ⟨B, cs, hlv⟩ := hs.heap b _ hb
      obtain ⟨ty, hty⟩ := hlv.cells rfl
      have hwl : ∀ c k, look c (wipe b s.heap) = some k → c ≠ b ∧ look c s.heap = some k := by
        intro c k hk
        rw [look_wipe] at hk
        split at hk
        · cases hk
        · exact ⟨‹_›, hk⟩
      have hs' := hs.forget (l := wipe b s.heap) (fun c k hk => (hwl c k hk).2)
      obtain ⟨F', bs, h1, h2, h3, h4, h5, h6, h7⟩ := ih F vs hs' (by simpa using hl) (fun i p u hp hu => hv (i + 1) p u (by simpa using hp) (by simpa using hu))
      have hnb : ∀ c k sz, look c (wipe b s.heap) = some k → φ c = some (B, sz) → False := by
        intro c k sz q1 q2
        obtain ⟨q3, q4⟩ := hwl c k q1
        exact q3 (hs.inj c b k _ B _ _ q4 hb q2 hlv.at_)
      refine ⟨F', fun i => match i with | 0 => some B | i + 1 => bs i, h1, h2, fun x hx => ?_, by simp [h4], fun i r u hr hu => ?_, fun i j b' hij hi hj => ?_, fun i B' hi => ?_⟩
      · obtain ⟨c, k, sz, q1, q2⟩ := h3 x hx; exact ⟨c, k, sz, (hwl c k q1).2, q2⟩
      · cases i with
        | zero =>
          simp at hr hu; subst hr; subst hu
          cases hv0 with
          | @ref _ _ _ _ _ B' sz c hφ g1 g2 g3 =>
            have := hlv.at_; rw [hφ] at this; cases this
            cases hlv.reads with
            | row hn he hrd hF =>
              have hlen : (ys.take len).length = len := by simp; omega
              have hget : ∀ (i : Nat) (x : T), (ys.take len)[i]? = some x → ys[i]? = some x := by
                intro i x hx
                rw [List.getElem?_take] at hx
                split at hx
                · exact hx
                · cases hx
              refine RR1.own (c := c) (cs := cs) (ty := ty) ⟨by rw [hlen, Nat.zero_mul], (Nat.le_of_not_lt hlv.old), by omega, by omega, hty, fun i x hx => he i x (hget i x hx), fun i x j p hx hp => ?_, fun x u e1 e2 => ?_⟩
              · obtain ⟨u, q1, q2, q3⟩ := hrd i x j p (hget i x hx) hp
                exact ⟨u, q1, q2.mono h1, q3⟩
              · by_cases e3 : F' x = F x
                · have := (hF x u (e3 ▸ e1) e2).1; cases this
                · obtain ⟨c2, k2, sz2, q1, q2⟩ := h3 x e3
                  exact hnb c2 k2 sz2 q1 (e2 ▸ q2)
        | succ i => exact h5 i r u (by simpa using hr) (by simpa using hu)
      · cases i with
        | zero =>
          cases hi
          cases j with
          | zero => exact hij rfl
          | succ j =>
            obtain ⟨c, k, sz, q1, q2⟩ := h7 j _ hj
            exact hnb c k sz q1 q2
        | succ i => cases j with
          | zero =>
            cases hj
            obtain ⟨c, k, sz, q1, q2⟩ := h7 i _ hi
            exact hnb c k sz q1 q2
          | succ j => exact h6 i j b' (by omega) hi hj
      · cases i with
        | zero => cases hi; exact ⟨b, _, _, hb, hlv.at_⟩
        | succ i =>
          obtain ⟨c, k, sz, q1, q2⟩ := h7 i B' hi
          exact ⟨c, k, sz, (hwl c k q1).2, q2⟩
/-- What a body has to come to. -/
def Comes1 (t : Tmp) (r : R1) (x : Ex) (s : St) : Prop := (x = .normal ∨ x = .ret) ∧ Rets s [s.ev (.tmp t)] [r]
theorem sim_init {F : FMem} {args : List T} {vs : Array Value} {w : World} {N : Nat} (hF : FOK F w) (hn : args.length = vs.size) (h : ∀ (i : Nat) (x : T) (v : Value), args[i]? = some x → vs[i]? = some v → TR F x v) (hN : vs.size ≤ N) :
    Sim ⟨(· < w.heap.size), []⟩ w (fun _ => none) F ⟨initTm 0 args, N, [], 0, 0⟩ F (fun _ => none) { tmps := vs ++ Array.replicate (N - vs.size) undef, defers := [] } w := by
  refine ⟨Bel.refl _ _, fun _ h => h, hF, FMem.le_refl F, fun x hx => absurd rfl hx, fun _ _ => rfl, Nat.le_refl _, fun _ _ => rfl, by simp; omega, rfl, fun i p hp => ?_, (fun b k hk => by cases hk), (fun b b' k k' B sz sz' hk => by cases hk)⟩
  obtain ⟨j, x, rfl, hx, rfl⟩ := look_init 0 args i p hp
  have hj : j < vs.size := by rw [← hn]; exact (List.getElem?_eq_some_iff.1 hx).1
  rw [Nat.zero_add, Array.getD_eq_getD_getElem?, Array.getElem?_append_left hj, Array.getElem?_eq_getElem hj]
  exact .t (h j x _ hx (Array.getElem?_eq_getElem hj))
theorem Pure.of1 {f : FuncId} {fn : Func} {c : Code} {args : List T} {t : Tmp} {r : R1} {N : Nat} (hf : P.funcs[f]? = some fn) (hb : fn.body = some c) (hN : fn.ntmps = N) (hle : args.length ≤ N) (hr : fn.results = #[.tmp t])
    (h : Tri P c (Comes1 t r) ⟨initTm 0 args, N, [], 0, 0⟩) : Pure P f args (.one r) := by
  intro F vs w hF hn hv
  refine calls_of_wp hf hb ?_
  rw [hN]
  have hs := sim_init (N := N) hF hn hv (by omega)
  refine wp_mono (h _ _ _ _ _ _ _ _ hs) ?_
  rintro e a' w' ⟨x, s', F', φ', rfl, ⟨hx, hq⟩, h1, h2, hs'⟩
  obtain ⟨G, bs, g1, g2, g3, g4, g5, g6, g7⟩ := hq.rr F' [a'.tmps.getD t undef] hs' rfl (fun i p v hp hv => by
    cases i with
    | zero => cases hp; cases hv; exact hs'.ev (.tmp t)
    | succ i => simp at hp)
  have hpost : bodyPost P fn (fun e w' => ∃ rv F', e = .returned rv ∧ F.le F' ∧ FOK F' w' ∧ (∀ a, F' a ≠ F a → w.heap.size ≤ a.block) ∧ Below w.heap.size w w' ∧ RR F' w.heap.size w' (.one r) rv) .normal a' w' := by
    refine bodyPost_end (results_tmp hr _ _ _) hs'.defers ⟨_, G, rfl, FMem.le_trans hs'.fle g1, g2, fun x hx => ?_, hs'.below.below, .one (g5 0 r _ rfl rfl)⟩
    by_cases e1 : G x = F' x
    · exact Nat.le_of_not_lt (hs'.fnew x (fun e2 => hx (e1.trans e2)))
    · obtain ⟨b, k, sz, q1, q2⟩ := g3 x e1
      obtain ⟨B, cs, hl⟩ := hs'.heap b k q1
      have := hl.at_; rw [q2] at this; cases this
      exact Nat.le_of_not_lt hl.old
  rcases hx with rfl | rfl
  · exact hpost
  · exact hpost
end Go.Proofs.YtdiimgkopknbcaaGreatDoor.E

/- The engine: small words for proofs over it. -/
namespace Go.Proofs.YtdiimgkopknbcaaGreatDoor.E
open Go Go.RowKit
set_option linter.unusedVariables false
set_option linter.unusedSimpArgs false
variable {P : Program}

/-- A region as it is written. -/
theorem Tri.reg {id : Nat} {l : List Oper} {Q : Ex → St → Prop} {s : St} (h : TriL P l.toArray l (Q .normal) s) : Tri P (.region id l.toArray false) Q s :=
  .region (by simpa using h)
/-- A call whose answer is a tree. -/
theorem VO.call {d ty : Nat} {pos : String} {af : Array Edge} {g : Option (Nat × Bool)} {s : St} {H : Prop} {x : Operand} {f : FuncId} {xs : List Operand} {ts : Array TypeId} {targs : List T} {r : T} [hf : FnIs P f] (hx : s.ev x = .t (.v (.func (.func f) #[] #[])))
    (hl : targs.length = xs.length) (hp : ∀ (i : Nat) (y : Operand) (u : T), xs[i]? = some y → targs[i]? = some u → ∃ p, EvH H s y p ∧ p.toT = some u) (hr : H → Pure P f targs (.one (.t r))) : VO P H ⟨some d, .call ⟨.value x, xs.toArray, ts⟩, ty, pos, af, g⟩ s (.t r) := by
  intro hH B0 w0 φ0 F0 F φ a w hs next Q hQ
  have hfn := (evv0 hs hx).1
  have hrun : (execOp a.eval ⟨some d, .call ⟨.value x, xs.toArray, ts⟩, ty, pos, af, g⟩).run P w = .ok (.enter f (xs.map a.eval).toArray) w := by
    simp [execOp, resolve, hfn, Deferred.ofValue, invoke, callFunc_run hf]
  simp only [Oper.wp, hrun, Oper.upon]
  refine (hr hH F (xs.map a.eval).toArray w hs.fok (by simpa using hl) (fun i x v h1 h2 => ?_)).mono ?_
  · simp only [List.getElem?_toArray, List.getElem?_map, Option.map_eq_some_iff] at h2
    obtain ⟨y, hy, rfl⟩ := h2
    obtain ⟨p, q1, q2⟩ := hp i y x hy h1
    exact PV.toT_tr (q1.vr hH hs) q2
  · rintro e w' ⟨rv, F2, rfl, h1, h2, h3, h4, h5⟩
    have hsim : Sim B0 w0 φ0 F0 s F2 φ a w' := by
      have hb1 : Sim B0 w0 φ0 F0 s F φ a w' := hs.world (.of h4 hs.base_le) (fun b k B sz q1 q2 => h4.block B (hs.block_lt q1 q2)) (hs.fok.grow (FMem.le_refl _) (fun x u e1 => by
        obtain ⟨q1, q2⟩ := hs.fok x u e1
        exact ⟨by rw [h4.cell (cell_lt q1)]; exact q1, q2⟩) fun g j u n _ e h2 => szW_block (h4.block g (cell_lt e)) h2)
      exact hb1.more h1 h2 (fun x hx => hs.base_new (h3 x hx)) (fun b k B sz q1 q2 x hx => by have := h3 x hx; have := hs.block_lt q1 q2; omega)
    cases h5 with
    | one hr1 => cases hr1 with | t ht => exact hQ rv F2 w' hsim (.t ht)
theorem Comes1.ret {t : Tmp} {r : R1} {s : St} {y : T} (h : (evt s.tm (.tmp t)).toT = some y) (e : R1.t y = r) : Comes1 t r .ret s := ⟨.inr rfl, e ▸ .tree h .nil⟩
/-- What is known here is known there. -/
def subT {α : Type} : List (Nat × α) → List (Nat × α) → Prop
  | [], _ => True
  | (i, p) :: l, m => look i m = some p ∧ subT l m
theorem subT_look {α : Type} : ∀ {l m : List (Nat × α)}, subT l m → ∀ i p, look i l = some p → look i m = some p
  | [], _, _, i, p, h => by cases h
  | (j, q) :: l, m, hs, i, p, h => by
    simp only [look] at h
    split at h
    · rename_i e; subst e; cases h; exact hs.1
    · exact subT_look hs.2 i p h
theorem Sub.of {tm tm2 : List (Nat × PV)} {N : Nat} {hp hp2 : List (Nat × Blk)} {lo n n2 : Nat} (hn : n2 = n) (hlo : Nat.ble lo n = true) (ht : subT tm2 tm) (hh : subT hp2 hp) : Sub ⟨tm2, N, hp2, lo, n2⟩ ⟨tm, N, hp, lo, n⟩ := by
  subst hn
  exact ⟨rfl, rfl, Nat.le_refl _, by simpa [Nat.ble_eq] using hlo, fun i p h => ⟨subT_look ht i p h, .inl rfl⟩, fun i p h => ⟨subT_look hh i p h, .inl rfl⟩⟩
def ltT (m : Nat) : List (Nat × PV) → Bool
  | [] => true
  | (_, p) :: l => PV.lt m p && ltT m l
def ltB (m : Nat) : List (Nat × Blk) → Bool
  | [] => true
  | (b, k) :: l => Nat.blt b m && Blk.lt m k && ltB m l
theorem ltT_look : ∀ {m : Nat} {l : List (Nat × PV)}, ltT m l = true → ∀ i p, look i l = some p → PV.lt m p = true
  | m, [], _, i, p, h => by cases h
  | m, (j, q) :: l, hs, i, p, h => by
    simp only [ltT, Bool.and_eq_true] at hs
    simp only [look] at h
    split at h
    · cases h; exact hs.1
    · exact ltT_look hs.2 i p h
theorem ltB_look : ∀ {m : Nat} {l : List (Nat × Blk)}, ltB m l = true → ∀ i p, look i l = some p → i < m ∧ Blk.lt m p = true
  | m, [], _, i, p, h => by cases h
  | m, (j, q) :: l, hs, i, p, h => by
    simp only [ltB, Bool.and_eq_true, Nat.blt_eq] at hs
    simp only [look] at h
    split at h
    · rename_i e; subst e; cases h; exact hs.1
    · exact ltB_look hs.2 i p h
/-- A loop whose state is told by a parameter. -/
theorem Tri.loopS {α : Type} {c : Code} {Q : Ex → St → Prop} {s : St} (S : α → St) (inv : α → Prop) (μ : α → Nat) (a0 : α) (h0 : inv a0) (hsub : Sub (S a0) s)
    (round : ∀ a, inv a → Tri P c (after Q (fun s2 => ∃ a', inv a' ∧ μ a' < μ a ∧ Sub (S a') s2)) (S a)) : Tri P (.loop c) Q s := by
  refine Tri.sub hsub ?_
  refine Tri.loop (fun s' => ∃ a, inv a ∧ s' = S a) (fun s' => leastOf fun n => ∃ a, inv a ∧ s' = S a ∧ μ a = n) ⟨a0, h0, rfl⟩ ?_
  rintro s' ⟨a1, ha1, rfl⟩ h1 h2
  have hl : ∃ n, ∃ a, inv a ∧ S a1 = S a ∧ μ a = n := ⟨_, a1, ha1, rfl, rfl⟩
  obtain ⟨a, ha, he, hμ⟩ := leastOf_spec hl
  rw [he]
  refine (round a ha).mono ?_
  intro x s2 _ _ hq
  cases x with
  | normal =>
    obtain ⟨a', ha', hlt, hs⟩ := hq
    refine ⟨S a', hs, ⟨a', ha', rfl⟩, ?_⟩
    have h3 : leastOf (fun n => ∃ b, inv b ∧ S a' = S b ∧ μ b = n) ≤ μ a' := leastOf_le ⟨a', ha', rfl, rfl⟩
    have h4 : leastOf (fun n => ∃ b, inv b ∧ S a = S b ∧ μ b = n) = μ a := by rw [← he]; exact hμ.symm
    show leastOf (fun n => ∃ b, inv b ∧ S a' = S b ∧ μ b = n) < leastOf (fun n => ∃ b, inv b ∧ S a = S b ∧ μ b = n)
    omega
  | ret => exact hq
  | exit id => exact hq
theorem wrap_i64 {n : Int} (h0 : -9223372036854775808 ≤ n) (h1 : n ≤ 9223372036854775807) : IntKind.i64.wrap n = n := IntWalk.i64_in n ⟨h0, h1⟩
end Go.Proofs.YtdiimgkopknbcaaGreatDoor.E

/- The engine: each rule of E2, E3, E6 at the head of a list of operations: unguarded ('U'), guarded ('G'). Printed by mkug.py. -/
namespace Go.Proofs.YtdiimgkopknbcaaGreatDoor.E
open Go Go.RowKit
set_option linter.unusedVariables false
set_option linter.unusedSimpArgs false
variable {P : Program} {d ty : Nat} {pos : String} {af : Array Edge} {K : St → Prop} {s : St} {ops : Array Oper} {l_ : List Oper} {tm_ : List (Nat × PV)} {N_ lo_ n_ : Nat} {hp_ : List (Nat × Blk)}

theorem U.moveT {x : Operand} {y_ : T} (hx : (evt tm_ x).un = (.t y_)) (hx_ : (evt tm_ x).okc True) (hN : Nat.blt d N_ = true) (hK : TriL P ops l_ K ⟨(d, (.t y_)) :: tm_, N_, hp_, lo_, n_⟩) : TriL P ops (⟨some d, .move x, ty, pos, af, none⟩ :: l_) K ⟨tm_, N_, hp_, lo_, n_⟩ :=
  .vo rfl rfl hN (PO.move (s := ⟨tm_, N_, hp_, lo_, n_⟩) ⟨hx, hx_⟩).vo hK
theorem G.moveT {j_ g_ : Nat} {e_ want_ : Bool} {x : Operand} {y_ : T} (hx : (evt tm_ x).un = (.t y_)) (hx_ : (evt tm_ x).okc (e_ = true)) (hj_ : (ops[j_]?).bind (·.dst) = some g_) (hb_ : gval (evt tm_ (.tmp g_)) want_ = some e_) (hN : Nat.blt d N_ = true) (hK : TriL P ops l_ K ⟨(d, .cond e_ true (.t y_)) :: tm_, N_, hp_, lo_, n_⟩) : TriL P ops (⟨some d, .move x, ty, pos, af, some (j_, want_)⟩ :: l_) K ⟨tm_, N_, hp_, lo_, n_⟩ :=
  .gvo rfl hj_ hb_ rfl hN (PO.move (s := ⟨tm_, N_, hp_, lo_, n_⟩) ⟨hx, hx_⟩).vo hK
theorem U.assignT {x : Operand} {y_ : T} (hx : (evt tm_ x).un = (.t y_)) (hx_ : (evt tm_ x).okc True) (hN : Nat.blt d N_ = true) (hK : TriL P ops l_ K ⟨(d, (.t y_)) :: tm_, N_, hp_, lo_, n_⟩) : TriL P ops (⟨some d, .assign x, ty, pos, af, none⟩ :: l_) K ⟨tm_, N_, hp_, lo_, n_⟩ :=
  .vo rfl rfl hN (PO.assign (s := ⟨tm_, N_, hp_, lo_, n_⟩) ⟨hx, hx_⟩).vo hK
theorem U.pickb {c x y : Operand} {b p q : Bool} (hc : (evt tm_ c).un = (.t (.v (.bool b)))) (hc_ : (evt tm_ c).okc True) (hx : (evt tm_ x).un = (.t (.v (.bool p)))) (hx_ : (evt tm_ x).okc (True ∧ b = true)) (hy : (evt tm_ y).un = (.t (.v (.bool q)))) (hy_ : (evt tm_ y).okc (True ∧ b = false)) (hN : Nat.blt d N_ = true) (hK : TriL P ops l_ K ⟨(d, (.t (.v (.bool (bif b then p else q))))) :: tm_, N_, hp_, lo_, n_⟩) : TriL P ops (⟨some d, .pick c x y, ty, pos, af, none⟩ :: l_) K ⟨tm_, N_, hp_, lo_, n_⟩ :=
  .vo rfl rfl hN (PO.pickb (s := ⟨tm_, N_, hp_, lo_, n_⟩) ⟨hc, hc_⟩ ⟨hx, hx_⟩ ⟨hy, hy_⟩).vo hK
theorem U.bin {op : BinOp} {t t' : TypeId} {x y : Operand} {u v r : Value} (hx : (evt tm_ x).un = (.t (.v u))) (hx_ : (evt tm_ x).okc True) (hy : (evt tm_ y).un = (.t (.v v))) (hy_ : (evt tm_ y).okc True) (hr : binV op u v = some r) (hN : Nat.blt d N_ = true) (hK : TriL P ops l_ K ⟨(d, (.t (.v r))) :: tm_, N_, hp_, lo_, n_⟩) : TriL P ops (⟨some d, .binOp op t x y t', ty, pos, af, none⟩ :: l_) K ⟨tm_, N_, hp_, lo_, n_⟩ :=
  .vo rfl rfl hN (PO.bin (s := ⟨tm_, N_, hp_, lo_, n_⟩) ⟨hx, hx_⟩ ⟨hy, hy_⟩ hr).vo hK
theorem G.bin {j_ g_ : Nat} {e_ want_ : Bool} {op : BinOp} {t t' : TypeId} {x y : Operand} {u v r : Value} (hx : (evt tm_ x).un = (.t (.v u))) (hx_ : (evt tm_ x).okc (e_ = true)) (hy : (evt tm_ y).un = (.t (.v v))) (hy_ : (evt tm_ y).okc (e_ = true)) (hr : binV op u v = some r) (hj_ : (ops[j_]?).bind (·.dst) = some g_) (hb_ : gval (evt tm_ (.tmp g_)) want_ = some e_) (hN : Nat.blt d N_ = true) (hK : TriL P ops l_ K ⟨(d, .cond e_ true (.t (.v r))) :: tm_, N_, hp_, lo_, n_⟩) : TriL P ops (⟨some d, .binOp op t x y t', ty, pos, af, some (j_, want_)⟩ :: l_) K ⟨tm_, N_, hp_, lo_, n_⟩ :=
  .gvo rfl hj_ hb_ rfl hN (PO.bin (s := ⟨tm_, N_, hp_, lo_, n_⟩) ⟨hx, hx_⟩ ⟨hy, hy_⟩ hr).vo hK
theorem U.add {k : IntKind} {t t' : TypeId} {x y : Operand} {m n : Int} (hx : (evt tm_ x).un = (.t (.v (.int k m)))) (hx_ : (evt tm_ x).okc True) (hy : (evt tm_ y).un = (.t (.v (.int k n)))) (hy_ : (evt tm_ y).okc True) (hw : True → k.wrap (m + n) = m + n) (hN : Nat.blt d N_ = true) (hK : TriL P ops l_ K ⟨(d, (.t (.v (.int k (m + n))))) :: tm_, N_, hp_, lo_, n_⟩) : TriL P ops (⟨some d, .binOp .add t x y t', ty, pos, af, none⟩ :: l_) K ⟨tm_, N_, hp_, lo_, n_⟩ :=
  .vo rfl rfl hN (PO.add (s := ⟨tm_, N_, hp_, lo_, n_⟩) ⟨hx, hx_⟩ ⟨hy, hy_⟩ hw).vo hK
theorem U.not {t : TypeId} {x : Operand} {m : Bool} (hx : (evt tm_ x).un = (.t (.v (.bool m)))) (hx_ : (evt tm_ x).okc True) (hN : Nat.blt d N_ = true) (hK : TriL P ops l_ K ⟨(d, (.t (.v (.bool (!m))))) :: tm_, N_, hp_, lo_, n_⟩) : TriL P ops (⟨some d, .unOp .not t x, ty, pos, af, none⟩ :: l_) K ⟨tm_, N_, hp_, lo_, n_⟩ :=
  .vo rfl rfl hN (PO.not (s := ⟨tm_, N_, hp_, lo_, n_⟩) ⟨hx, hx_⟩).vo hK
theorem U.load {bt : Option TypeId} {t : TypeId} {x : Operand} {ds : TypeDesc} {sz bytes : Nat} {z : Value} {b o : Nat} {ls : List PV} {p : PV} [ht : TyIs P t ds sz bytes z] (hd : aggD ds = false) (hx : (evt tm_ x).un = (.ptr b o)) (hx_ : (evt tm_ x).okc True) (hb : look b hp_ = some (.obj ls bt)) (hp : ls[o]? = some p) (hN : Nat.blt d N_ = true) (hK : TriL P ops l_ K ⟨(d, p) :: tm_, N_, hp_, lo_, n_⟩) : TriL P ops (⟨some d, .load t x, ty, pos, af, none⟩ :: l_) K ⟨tm_, N_, hp_, lo_, n_⟩ :=
  .vo rfl rfl hN (PO.load (s := ⟨tm_, N_, hp_, lo_, n_⟩) hd ⟨hx, hx_⟩ hb hp).vo hK
theorem G.load {j_ g_ : Nat} {e_ want_ : Bool} {bt : Option TypeId} {t : TypeId} {x : Operand} {ds : TypeDesc} {sz bytes : Nat} {z : Value} {b o : Nat} {ls : List PV} {p : PV} [ht : TyIs P t ds sz bytes z] (hd : aggD ds = false) (hx : (evt tm_ x).un = (.ptr b o)) (hx_ : (evt tm_ x).okc (e_ = true)) (hb : look b hp_ = some (.obj ls bt)) (hp : ls[o]? = some p) (hj_ : (ops[j_]?).bind (·.dst) = some g_) (hb_ : gval (evt tm_ (.tmp g_)) want_ = some e_) (hN : Nat.blt d N_ = true) (hK : TriL P ops l_ K ⟨(d, .cond e_ true p) :: tm_, N_, hp_, lo_, n_⟩) : TriL P ops (⟨some d, .load t x, ty, pos, af, some (j_, want_)⟩ :: l_) K ⟨tm_, N_, hp_, lo_, n_⟩ :=
  .gvo rfl hj_ hb_ rfl hN (PO.load (s := ⟨tm_, N_, hp_, lo_, n_⟩) hd ⟨hx, hx_⟩ hb hp).vo hK
theorem U.loadS {bt : Option TypeId} {t : TypeId} {x : Operand} {ds : TypeDesc} {sz bytes : Nat} {z : Value} {b o : Nat} {ls qs : List PV} {p : PV} [ht : TyIs P t ds sz bytes z] (hd : aggD ds = true) (hx : (evt tm_ x).un = (.ptr b o)) (hx_ : (evt tm_ x).okc True) (hb : look b hp_ = some (.obj ls bt)) (hq : (ls.drop o).take sz = qs) (hn : qs.length = sz) (hp : mkAgg qs = p) (hN : Nat.blt d N_ = true) (hK : TriL P ops l_ K ⟨(d, p) :: tm_, N_, hp_, lo_, n_⟩) : TriL P ops (⟨some d, .load t x, ty, pos, af, none⟩ :: l_) K ⟨tm_, N_, hp_, lo_, n_⟩ :=
  .vo rfl rfl hN (PO.loadS (s := ⟨tm_, N_, hp_, lo_, n_⟩) hd ⟨hx, hx_⟩ hb hq hn hp).vo hK
theorem U.loadES {t : TypeId} {x : Operand} {ds : TypeDesc} {sz bytes : Nat} {z : Value} {y : T} {ls : List T} [ht : TyIs P t ds sz bytes z] (hd : aggD ds = true) (hx : (evt tm_ x).un = (.eptr y 0)) (hx_ : (evt tm_ x).okc True) (hy : y = .agg ls) (hn : ls.length = sz) (hN : Nat.blt d N_ = true) (hK : TriL P ops l_ K ⟨(d, (.t y)) :: tm_, N_, hp_, lo_, n_⟩) : TriL P ops (⟨some d, .load t x, ty, pos, af, none⟩ :: l_) K ⟨tm_, N_, hp_, lo_, n_⟩ :=
  .vo rfl rfl hN (PO.loadES (s := ⟨tm_, N_, hp_, lo_, n_⟩) hd ⟨hx, hx_⟩ hy hn).vo hK
theorem U.fld {t ft : TypeId} {x : Operand} {f : Nat} {fs : Array Field} {off : Nat} {sz bytes fsz fbytes : Nat} {z fz : Value} {fd : TypeDesc} {b o : Nat} [ht : TyIs P t (.struct fs) sz bytes z] (hx : (evt tm_ x).un = (.ptr b o)) (hx_ : (evt tm_ x).okc True) (hf : fldAt fs.toList f = some (ft, off)) (hft' : TyIs P ft fd fsz fbytes fz) (h0 : fsz ≠ 0) (hN : Nat.blt d N_ = true) (hK : TriL P ops l_ K ⟨(d, (.ptr b (o + off))) :: tm_, N_, hp_, lo_, n_⟩) : TriL P ops (⟨some d, .fieldAddr t x f, ty, pos, af, none⟩ :: l_) K ⟨tm_, N_, hp_, lo_, n_⟩ :=
  .vo rfl rfl hN (PO.fld (s := ⟨tm_, N_, hp_, lo_, n_⟩) ⟨hx, hx_⟩ hf hft' h0).vo hK
theorem G.fld {j_ g_ : Nat} {e_ want_ : Bool} {t ft : TypeId} {x : Operand} {f : Nat} {fs : Array Field} {off : Nat} {sz bytes fsz fbytes : Nat} {z fz : Value} {fd : TypeDesc} {b o : Nat} [ht : TyIs P t (.struct fs) sz bytes z] (hx : (evt tm_ x).un = (.ptr b o)) (hx_ : (evt tm_ x).okc (e_ = true)) (hf : fldAt fs.toList f = some (ft, off)) (hft' : TyIs P ft fd fsz fbytes fz) (h0 : fsz ≠ 0) (hj_ : (ops[j_]?).bind (·.dst) = some g_) (hb_ : gval (evt tm_ (.tmp g_)) want_ = some e_) (hN : Nat.blt d N_ = true) (hK : TriL P ops l_ K ⟨(d, .cond e_ true (.ptr b (o + off))) :: tm_, N_, hp_, lo_, n_⟩) : TriL P ops (⟨some d, .fieldAddr t x f, ty, pos, af, some (j_, want_)⟩ :: l_) K ⟨tm_, N_, hp_, lo_, n_⟩ :=
  .gvo rfl hj_ hb_ rfl hN (PO.fld (s := ⟨tm_, N_, hp_, lo_, n_⟩) ⟨hx, hx_⟩ hf hft' h0).vo hK
theorem U.idx {t et : TypeId} {x y : Operand} {k : IntKind} {i : Int} {n : Bool} {xs : List T} {e : T} {sz bytes esz ebytes : Nat} {z ez : Value} {ed : TypeDesc} [ht : TyIs P t (.slice et) sz bytes z] [he : TyIs P et ed esz ebytes ez] (hx : (evt tm_ x).un = (.t (.sl n xs))) (hx_ : (evt tm_ x).okc True) (hy : (evt tm_ y).un = (.t (.v (.int k i)))) (hy_ : (evt tm_ y).okc True) (h0 : True → 0 ≤ i) (h1 : True → xs[i.toNat]? = some e) (hl : True → e.leaves.length = esz) (hN : Nat.blt d N_ = true) (hK : TriL P ops l_ K ⟨(d, (.eptr e 0)) :: tm_, N_, hp_, lo_, n_⟩) : TriL P ops (⟨some d, .indexAddr t x y, ty, pos, af, none⟩ :: l_) K ⟨tm_, N_, hp_, lo_, n_⟩ :=
  .vo rfl rfl hN (PO.idx (s := ⟨tm_, N_, hp_, lo_, n_⟩) ⟨hx, hx_⟩ ⟨hy, hy_⟩ h0 h1 hl).vo hK
theorem U.len {t et : TypeId} {x : Operand} {n : Bool} {xs : List T} {sz bytes : Nat} {z : Value} [ht : TyIs P t (.slice et) sz bytes z] (hx : (evt tm_ x).un = (.t (.sl n xs))) (hx_ : (evt tm_ x).okc True) (hN : Nat.blt d N_ = true) (hK : TriL P ops l_ K ⟨(d, (.t (.v (.int .i64 xs.length)))) :: tm_, N_, hp_, lo_, n_⟩) : TriL P ops (⟨some d, .call ⟨.builtin .len, #[x], #[t]⟩, ty, pos, af, none⟩ :: l_) K ⟨tm_, N_, hp_, lo_, n_⟩ :=
  .vo rfl rfl hN (PO.len (s := ⟨tm_, N_, hp_, lo_, n_⟩) ⟨hx, hx_⟩).vo hK
theorem G.len {j_ g_ : Nat} {e_ want_ : Bool} {t et : TypeId} {x : Operand} {n : Bool} {xs : List T} {sz bytes : Nat} {z : Value} [ht : TyIs P t (.slice et) sz bytes z] (hx : (evt tm_ x).un = (.t (.sl n xs))) (hx_ : (evt tm_ x).okc (e_ = true)) (hj_ : (ops[j_]?).bind (·.dst) = some g_) (hb_ : gval (evt tm_ (.tmp g_)) want_ = some e_) (hN : Nat.blt d N_ = true) (hK : TriL P ops l_ K ⟨(d, .cond e_ true (.t (.v (.int .i64 xs.length)))) :: tm_, N_, hp_, lo_, n_⟩) : TriL P ops (⟨some d, .call ⟨.builtin .len, #[x], #[t]⟩, ty, pos, af, some (j_, want_)⟩ :: l_) K ⟨tm_, N_, hp_, lo_, n_⟩ :=
  .gvo rfl hj_ hb_ rfl hN (PO.len (s := ⟨tm_, N_, hp_, lo_, n_⟩) ⟨hx, hx_⟩).vo hK
/-! ### what makes blocks, what writes them -/
theorem U.box {t : TypeId} {x : Operand} {p : PV} {ls : List PV} (hx : evt tm_ x = p) (hp : p.known = true) (hl : p.leaves = ls) (hN : Nat.blt d N_ = true)
    (hK : TriL P ops l_ K ⟨(d, .ptr n_ 0) :: tm_, N_, (n_, .obj ls) :: hp_, lo_, n_ + 1⟩) : TriL P ops (⟨some d, .box t x, ty, pos, af, none⟩ :: l_) K ⟨tm_, N_, hp_, lo_, n_⟩ :=
  .cons rfl (.box hx hp hl hN hK)
theorem U.boxA {t : TypeId} {x : Operand} {xs : List T} (hx : evt tm_ x = .t (.agg xs)) (hN : Nat.blt d N_ = true)
    (hK : TriL P ops l_ K ⟨(d, .ptr n_ 0) :: tm_, N_, (n_, .obj (xs.map .t)) :: hp_, lo_, n_ + 1⟩) : TriL P ops (⟨some d, .box t x, ty, pos, af, none⟩ :: l_) K ⟨tm_, N_, hp_, lo_, n_⟩ :=
  U.box hx rfl rfl hN hK
theorem U.alloc {t : TypeId} {ds : TypeDesc} {sz bytes : Nat} {z : Value} {p : PV} {ls : List PV} [ht : TyIs P t ds sz bytes z] (hz : ofConst z = p) (hp : p.known = true) (hl : p.leaves = ls) (hN : Nat.blt d N_ = true)
    (hK : TriL P ops l_ K ⟨(d, .ptr n_ 0) :: tm_, N_, (n_, .obj ls) :: hp_, lo_, n_ + 1⟩) : TriL P ops (⟨some d, .alloc t, ty, pos, af, none⟩ :: l_) K ⟨tm_, N_, hp_, lo_, n_⟩ :=
  .cons rfl (.alloc hz hp hl hN hK)
/-- Calls whose answer is a tree. -/
theorem U.call1 {x y : Operand} {f : FuncId} {ts : Array TypeId} {u r : T} [hf : FnIs P f] (hx : evt tm_ x = .t (.v (.func (.func f) #[] #[]))) (hy : (evt tm_ y).toT = some u) (hr : E.Pure P f [u] (.one (.t r))) (hN : Nat.blt d N_ = true)
    (hK : TriL P ops l_ K ⟨(d, .t r) :: tm_, N_, hp_, lo_, n_⟩) : TriL P ops (⟨some d, .call ⟨.value x, #[y], ts⟩, ty, pos, af, none⟩ :: l_) K ⟨tm_, N_, hp_, lo_, n_⟩ :=
  .cons rfl (.call (xs := [y]) (s1 := ⟨tm_, N_, hp_, lo_, n_⟩) hx rfl (.tree hy .nil) hr hN hK)
theorem U.call2 {x y z : Operand} {f : FuncId} {ts : Array TypeId} {u v r : T} [hf : FnIs P f] (hx : evt tm_ x = .t (.v (.func (.func f) #[] #[]))) (hy : (evt tm_ y).toT = some u) (hz : (evt tm_ z).toT = some v) (hr : E.Pure P f [u, v] (.one (.t r))) (hN : Nat.blt d N_ = true)
    (hK : TriL P ops l_ K ⟨(d, .t r) :: tm_, N_, hp_, lo_, n_⟩) : TriL P ops (⟨some d, .call ⟨.value x, #[y, z], ts⟩, ty, pos, af, none⟩ :: l_) K ⟨tm_, N_, hp_, lo_, n_⟩ :=
  .cons rfl (.call (xs := [y, z]) (s1 := ⟨tm_, N_, hp_, lo_, n_⟩) hx rfl (.tree hy (.tree hz .nil)) hr hN hK)
end Go.Proofs.YtdiimgkopknbcaaGreatDoor.E

/- The engine: regions whose order is free. -/
namespace Go.Proofs.YtdiimgkopknbcaaGreatDoor.E
open Go Go.RowKit
set_option linter.unusedVariables false
set_option linter.unusedSimpArgs false
variable {P : Program}

def dirOf (ops : Array Oper) (j : Nat) : List Nat := match ops[j]? with
  | some o => (o.after.toList.filter (Region.binds .any)).map (·.on)
  | none => []
def ancAt (A : List (List Nat)) (j : Nat) : List Nat := A.getD j []
def mkAncGo (ops : Array Oper) : Nat → Nat → List (List Nat) → List (List Nat)
  | 0, _, acc => acc
  | k + 1, j, acc => mkAncGo ops k (j + 1) (acc ++ [((dirOf ops j) ++ (dirOf ops j).flatMap (ancAt acc)).eraseDups])
def mkAnc (ops : Array Oper) : List (List Nat) := mkAncGo ops ops.size 0 []
def cmpB (A : List (List Nat)) (i j : Nat) : Bool := (ancAt A i).contains j || (ancAt A j).contains i || i == j
def dstOf (ops : Array Oper) (j : Nat) : Option Nat := match ops[j]? with
  | some o => o.dst
  | none => none
def looksOf (ops : Array Oper) (o : Oper) : List Nat :=
  (o.op.operands.toList.filterMap fun | .tmp t => some t | _ => none) ++ (match o.guard with | some (j, _) => (match dstOf ops j with | some d => [d] | none => []) | none => [])
def freeB (A : List (List Nat)) (es : List Nat) (i : Nat) : Bool := es.any fun e => !cmpB A i e
def dOK (ops : Array Oper) (A : List (List Nat)) (es : List Nat) : Bool :=
  ((List.range ops.size).all fun j => (dirOf ops j).all (fun i => Nat.blt i j) && (ancAt A j).all fun i => Nat.blt i j && ((dirOf ops j).contains i || (dirOf ops j).any fun k => (ancAt A k).contains i)) &&
  ((List.range ops.size).all fun i => match ops[i]? with
    | some o => (looksOf ops o).all fun t => (List.range ops.size).all fun j => dstOf ops j != some t || cmpB A i j
    | none => true) &&
  ((List.range ops.size).all fun i => (List.range ops.size).all fun j => i == j || dstOf ops i == none || dstOf ops i != dstOf ops j) &&
  (es.all fun e => Nat.blt e ops.size && es.all fun e' => cmpB A e e')

/-- What is looked at. -/
def sel (ops : Array Oper) (o : Oper) (tm : List (Nat × PV)) : List (Nat × PV) := (looksOf ops o).map fun t => (t, (look t tm).getD .undef)
theorem look_sel {tm : List (Nat × PV)} : ∀ {l : List Nat} {t : Nat} {p : PV}, look t (l.map fun t => (t, (look t tm).getD .undef)) = some p → t ∈ l ∧ p = (look t tm).getD .undef
  | [], t, p, h => by cases h
  | u :: l, t, p, h => by
    simp only [List.map_cons, look] at h
    split at h
    · rename_i e; subst e; cases h; exact ⟨List.mem_cons_self, rfl⟩
    · exact ⟨List.mem_cons_of_mem _ (look_sel h).1, (look_sel h).2⟩
def pushT (o : Option Nat) (q : PV) (tm : List (Nat × PV)) : List (Nat × PV) := match o with
  | some d => (d, q) :: tm
  | none => tm
/-- One operation: what it gives, and the blocks behind it. -/
def OneOp (P : Program) (ops : Array Oper) (o : Oper) (tm : List (Nat × PV)) (N : Nat) (hp : List (Nat × Blk)) (n : Nat) (q : PV) (hp' : List (Nat × Blk)) (n' : Nat) : Prop :=
  TriL P ops [o] (fun s' => (∀ d, o.dst = some d → look d s'.tm = some q) ∧ s'.heap = hp' ∧ s'.n = n') ⟨sel ops o tm, N, hp, n, n⟩
/-- Blocks that stay. -/
def Keep (base hp : List (Nat × Blk)) : Prop := ∀ b k, look b base = some k → look b hp = some k
/-- Behind this effect something of free order may still be to do. -/
def needB (ops : Array Oper) (A : List (List Nat)) (es : List Nat) (i : Nat) : Bool := (List.range ops.size).any fun j => freeB A es j && !(ancAt A i).contains j
/-- What is to be shown of the operations, in the text's order. -/
def DOb (P : Program) (ops : Array Oper) (A : List (List Nat)) (es : List Nat) (N lo : Nat) (K : St → Prop) (base : List (Nat × Blk)) : Nat → List Oper → List (Nat × PV) → List (Nat × Blk) → Nat → Prop
  | i, [], tm, hp, n => K ⟨tm, N, hp, lo, n⟩
  | i, o :: l, tm, hp, n => ∃ q hp' n', (es.contains i = false → hp' = hp ∧ n' = n) ∧ (es.contains i = true → needB ops A es i = true → Keep base hp') ∧ (if freeB A es i = true then ∀ hp n, Keep base hp → OneOp P ops o tm N hp n q hp n else OneOp P ops o tm N hp n q hp' n') ∧ DOb P ops A es N lo K base (i + 1) l (pushT o.dst q tm) hp' n'

section
variable {ops : Array Oper} {A : List (List Nat)} {es : List Nat} {N lo : Nat} {K : St → Prop} {i : Nat} {o : Oper} {l : List Oper} {tm : List (Nat × PV)} {base hp : List (Nat × Blk)} {n : Nat}
theorem D.nil (h : K ⟨tm, N, hp, lo, n⟩) : DOb P ops A es N lo K base i [] tm hp n := h
/-- A value; nothing else. -/
theorem D.v {d : Nat} {q : PV} (hd : o.dst = some d) (he : es.contains i = false) (hk : freeB A es i = false) (h : TriL P ops [o] (fun s' => s'.tm = (d, q) :: sel ops o tm ∧ s'.heap = hp ∧ s'.n = n) ⟨sel ops o tm, N, hp, n, n⟩)
    (hK : DOb P ops A es N lo K base (i + 1) l ((d, q) :: tm) hp n) : DOb P ops A es N lo K base i (o :: l) tm hp n := by
  refine ⟨q, hp, n, fun _ => ⟨rfl, rfl⟩, fun h1 => (by have := he; simp_all), ?_, by rw [hd]; exact hK⟩
  rw [if_neg (by simp [hk])]
  exact h.mono fun s' _ _ ⟨h1, h2, h3⟩ => ⟨fun d' e => by rw [hd] at e; cases e; rw [h1]; simp [look], h2, h3⟩
/-- A value, whatever is done meanwhile. -/
theorem D.f {d : Nat} {q : PV} (hd : o.dst = some d) (he : es.contains i = false) (hk : freeB A es i = true) (h : ∀ hp n, TriL P ops [o] (fun s' => s'.tm = (d, q) :: sel ops o tm ∧ s'.heap = hp ∧ s'.n = n) ⟨sel ops o tm, N, hp, n, n⟩)
    (hK : DOb P ops A es N lo K base (i + 1) l ((d, q) :: tm) hp n) : DOb P ops A es N lo K base i (o :: l) tm hp n := by
  refine ⟨q, hp, n, fun _ => ⟨rfl, rfl⟩, fun h1 => (by have := he; simp_all), ?_, by rw [hd]; exact hK⟩
  rw [if_pos hk]
  exact fun hp n _ => (h hp n).mono fun s' _ _ ⟨h1, h2, h3⟩ => ⟨fun d' e => by rw [hd] at e; cases e; rw [h1]; simp [look], h2, h3⟩
/-- One that makes or writes a block, and gives a value. -/
theorem D.e {d : Nat} {q : PV} {hp' : List (Nat × Blk)} {n' : Nat} (hd : o.dst = some d) (he : es.contains i = true) (hk : freeB A es i = false) (hb : needB ops A es i = true → Keep base hp') (h : TriL P ops [o] (fun s' => s'.tm = (d, q) :: sel ops o tm ∧ s'.heap = hp' ∧ s'.n = n') ⟨sel ops o tm, N, hp, n, n⟩)
    (hK : DOb P ops A es N lo K base (i + 1) l ((d, q) :: tm) hp' n') : DOb P ops A es N lo K base i (o :: l) tm hp n := by
  refine ⟨q, hp', n', fun e => by simp_all, fun _ => hb, ?_, by rw [hd]; exact hK⟩
  rw [if_neg (by simp [hk])]
  exact h.mono fun s' _ _ ⟨h1, h2, h3⟩ => ⟨fun d' e => by rw [hd] at e; cases e; rw [h1]; simp [look], h2, h3⟩
/-- One that writes a block, and gives none. -/
theorem D.s {hp' : List (Nat × Blk)} {n' : Nat} (hd : o.dst = none) (he : es.contains i = true) (hk : freeB A es i = false) (hb : needB ops A es i = true → Keep base hp') (h : TriL P ops [o] (fun s' => s'.heap = hp' ∧ s'.n = n') ⟨sel ops o tm, N, hp, n, n⟩)
    (hK : DOb P ops A es N lo K base (i + 1) l tm hp' n') : DOb P ops A es N lo K base i (o :: l) tm hp n := by
  refine ⟨.undef, hp', n', fun e => by simp_all, fun _ => hb, ?_, by rw [hd]; exact hK⟩
  rw [if_neg (by simp [hk])]
  exact h.mono fun s' _ _ ⟨h2, h3⟩ => ⟨fun d' e => (by rw [hd] at e; cases e), h2, h3⟩
end

/-- The obligations, by their place. -/
def tmAt (ops : Array Oper) (q : Nat → PV) (tm : List (Nat × PV)) : Nat → List (Nat × PV)
  | 0 => tm
  | i + 1 => pushT (dstOf ops i) (q i) (tmAt ops q tm i)
structure Obs (P : Program) (ops : Array Oper) (A : List (List Nat)) (es : List Nat) (N : Nat) (base : List (Nat × Blk)) (tm : List (Nat × PV)) (q : Nat → PV) (hp : Nat → List (Nat × Blk)) (nn : Nat → Nat) : Prop where
  keep : ∀ i, es.contains i = false → hp (i + 1) = hp i ∧ nn (i + 1) = nn i
  keepb : ∀ i < ops.size, es.contains i = true → needB ops A es i = true → Keep base (hp (i + 1))
  ob : ∀ i o, ops[i]? = some o → if freeB A es i = true then ∀ hp n, Keep base hp → OneOp P ops o (tmAt ops q tm i) N hp n (q i) hp n else OneOp P ops o (tmAt ops q tm i) N (hp i) (nn i) (q i) (hp (i + 1)) (nn (i + 1))
theorem DOb.obs {ops : Array Oper} {A : List (List Nat)} {es : List Nat} {N lo : Nat} {K : St → Prop} {base : List (Nat × Blk)} {tm0 : List (Nat × PV)} : ∀ (l : List Oper) (i : Nat) (q : Nat → PV) (hp : Nat → List (Nat × Blk)) (nn : Nat → Nat),
    (∀ j, l[j]? = ops[i + j]?) → i + l.length = ops.size →
    (∀ k < i, es.contains k = false → hp (k + 1) = hp k ∧ nn (k + 1) = nn k) →
    (∀ k < i, es.contains k = true → needB ops A es k = true → Keep base (hp (k + 1))) →
    (∀ k < i, ∀ o, ops[k]? = some o → if freeB A es k = true then ∀ hp n, Keep base hp → OneOp P ops o (tmAt ops q tm0 k) N hp n (q k) hp n else OneOp P ops o (tmAt ops q tm0 k) N (hp k) (nn k) (q k) (hp (k + 1)) (nn (k + 1))) →
    DOb P ops A es N lo K base i l (tmAt ops q tm0 i) (hp i) (nn i) →
    ∃ q' hp' nn', Obs P ops A es N base tm0 q' hp' nn' ∧ hp' 0 = hp 0 ∧ nn' 0 = nn 0 ∧ K ⟨tmAt ops q' tm0 ops.size, N, hp' ops.size, lo, nn' ops.size⟩ := by
  have tmAt_ext : ∀ (q q' : Nat → PV) (i : Nat), (∀ k < i, q k = q' k) → tmAt ops q tm0 i = tmAt ops q' tm0 i := by
    intro q q' i
    induction i with
    | zero => intro _; rfl
    | succ i ih => intro h; simp only [tmAt]; rw [ih (fun k hk => h k (by omega)), h i (by omega)]
  intro l
  induction l with
  | nil =>
    intro i q hp nn hl hs hkeep hkb hob h
    simp at hs
    subst hs
    refine ⟨q, fun k => hp (min k ops.size), fun k => nn (min k ops.size), ⟨fun k hk => ?_, fun k hk hc hn => (?_ : Keep base _), fun k o ho => ?_⟩, by simp, by simp, by have h' : K _ := h; simpa using h'⟩
    · rcases Nat.lt_or_ge k ops.size with e | e
      · simp only [Nat.min_eq_left (Nat.succ_le_of_lt e), Nat.min_eq_left (Nat.le_of_lt e)]; exact hkeep k e hk
      · simp [Nat.min_eq_right e, Nat.min_eq_right (Nat.le_succ_of_le e)]
    · simp only [Nat.min_eq_left (Nat.succ_le_of_lt hk)]; exact hkb k hk hc hn
    · have e : k < ops.size := by
        rcases Nat.lt_or_ge k ops.size with e | e
        · exact e
        · rw [Array.getElem?_eq_none e] at ho; cases ho
      simp only [Nat.min_eq_left (Nat.succ_le_of_lt e), Nat.min_eq_left (Nat.le_of_lt e)]
      exact hob k e o ho
  | cons o l ih =>
    intro i q hp nn hl hs hkeep hkb hob h
    obtain ⟨q1, hp1, n1, h1, h1b, h2, h3⟩ := h
    have ho : ops[i]? = some o := by have := hl 0; simpa using this.symm
    have hd : dstOf ops i = o.dst := by simp [dstOf, ho]
    let q' : Nat → PV := fun k => if k = i then q1 else q k
    let hp' : Nat → List (Nat × Blk) := fun k => if k = i + 1 then hp1 else hp k
    let nn' : Nat → Nat := fun k => if k = i + 1 then n1 else nn k
    have eq' : ∀ k ≤ i, tmAt ops q' tm0 k = tmAt ops q tm0 k := fun k hk => tmAt_ext _ _ _ (fun j hj => by simp only [q']; rw [if_neg (by omega)])
    have ehp : ∀ k ≤ i, hp' k = hp k := fun k hk => by simp only [hp']; rw [if_neg (by omega)]
    have enn : ∀ k ≤ i, nn' k = nn k := fun k hk => by simp only [nn']; rw [if_neg (by omega)]
    have := ih (i + 1) q' hp' nn' (fun j => by have := hl (j + 1); rw [List.getElem?_cons_succ] at this; rw [this]; congr 1; omega) (by simp at hs; omega) ?_ ?_ ?_ ?_
    · obtain ⟨a, b, c, x1, x2, x3, x4⟩ := this
      exact ⟨a, b, c, x1, x2.trans (ehp 0 (by omega)), x3.trans (enn 0 (by omega)), x4⟩
    · intro k hk hc
      rcases Nat.lt_or_ge k i with e | e
      · rw [ehp _ (by omega), ehp _ (by omega), enn _ (by omega), enn _ (by omega)]; exact hkeep k e hc
      · obtain rfl : k = i := by omega
        rw [ehp _ (Nat.le_refl _), enn _ (Nat.le_refl _)]
        simp only [hp', nn', if_true]
        exact h1 hc
    · intro k hk hc hn
      rcases Nat.lt_or_ge k i with e | e
      · rw [ehp _ (by omega)]; exact hkb k e hc hn
      · obtain rfl : k = i := by omega
        simp only [hp', if_true]
        exact h1b hc hn
    · intro k hk o' ho'
      rw [eq' k (by omega), ehp k (by omega), enn k (by omega)]
      rcases Nat.lt_or_ge k i with e | e
      · rw [ehp _ (by omega), enn _ (by omega)]
        simp only [q', if_neg (show k ≠ i by omega)]
        exact hob k e o' ho'
      · obtain rfl : k = i := by omega
        rw [ho] at ho'; cases ho'
        simp only [q', hp', nn', if_true]
        exact h2
    · simp only [tmAt]
      rw [eq' i (Nat.le_refl _), hd]
      simp only [q', hp', nn', if_true]
      exact h3

/-! ### what a check says -/
theorem mem_of_contains {l : List Nat} {i : Nat} (h : l.contains i = true) : i ∈ l := by simpa using h
structure DOKP (ops : Array Oper) (A : List (List Nat)) (es : List Nat) : Prop where
  dirlt : ∀ j < ops.size, ∀ i ∈ dirOf ops j, i < j
  anclt : ∀ j < ops.size, ∀ i ∈ ancAt A j, i < j
  anc : ∀ j < ops.size, ∀ i ∈ ancAt A j, i ∈ dirOf ops j ∨ ∃ k ∈ dirOf ops j, i ∈ ancAt A k
  vis : ∀ i < ops.size, ∀ o, ops[i]? = some o → ∀ t ∈ looksOf ops o, ∀ j < ops.size, dstOf ops j = some t → j ∈ ancAt A i ∨ i ∈ ancAt A j ∨ i = j
  apart : ∀ i < ops.size, ∀ j < ops.size, i ≠ j → ∀ d, dstOf ops i = some d → dstOf ops j ≠ some d
  eff : ∀ e ∈ es, e < ops.size ∧ ∀ e' ∈ es, e' ∈ ancAt A e ∨ e ∈ ancAt A e' ∨ e = e'
theorem cmpB_spec {A : List (List Nat)} {i j : Nat} (h : cmpB A i j = true) : j ∈ ancAt A i ∨ i ∈ ancAt A j ∨ i = j := by
  simp only [cmpB, Bool.or_eq_true, beq_iff_eq, List.contains_iff_mem] at h
  rcases h with (h | h) | h
  · exact .inl h
  · exact .inr (.inl h)
  · exact .inr (.inr h)
theorem dOK_spec {ops : Array Oper} {A : List (List Nat)} {es : List Nat} (h : dOK ops A es = true) : DOKP ops A es := by
  simp only [dOK, Bool.and_eq_true, List.all_eq_true, List.mem_range, Nat.blt_eq, Bool.or_eq_true, List.any_eq_true, List.contains_iff_mem] at h
  obtain ⟨⟨⟨h1, h2⟩, h3⟩, h4⟩ := h
  refine ⟨fun j hj => (h1 j hj).1, fun j hj i hi => ((h1 j hj).2 i hi).1, fun j hj i hi => ((h1 j hj).2 i hi).2, fun i hi o ho t ht j hj hd => ?_, fun i hi j hj hne d hd => ?_, fun e he => ⟨(h4 e he).1, fun e' he' => cmpB_spec ((h4 e he).2 e' he')⟩⟩
  · have := h2 i hi
    rw [ho] at this
    simp only [List.all_eq_true, List.mem_range, Bool.or_eq_true] at this
    rcases this t ht j hj with h | h
    · rw [hd] at h; simp at h
    · exact cmpB_spec h
  · rcases h3 i hi j hj with (h | h) | h
    · simp at h; exact absurd h hne
    · simp at h; rw [h] at hd; cases hd
    · intro e
      rw [hd, e] at h
      simp at h

/-! ### one operation, out of its place -/
theorem wpOp_of_one {ops : Array Oper} {o : Oper} {i : Nat} {Q Q2 : Exit → Act → World → Prop} {K : Act → World → Prop} {a : Act} {w : World} (hi : ops[i]? = some o) (h : wpList P ops Q2 [o] a w)
    (hK : ∀ a' v w', a'.tmps = (a.put o.dst v).tmps → Q2 .normal a' w' → K a' w') (hQ : ∀ e a w, e ≠ .normal → Q2 e a w → Q e a w) : wpOp P ops Q i K a w := by
  simp only [wpList] at h
  simp only [wpOp, hi]
  split
  · rename_i hw
    rw [if_pos hw] at h
    refine h.imp ?_ ?_
    · intro h
      unfold Oper.wp at *
      generalize (execOp a.eval o).run P w = r at *
      cases r with
      | ok n w' =>
        cases n with
        | value v => exact hK _ v _ rfl h
        | skip => exact hK _ undef _ rfl h
        | defer d => exact hK _ undef _ (by cases o.dst <;> rfl) h
        | enter f args => exact Calls.mono h (fun e w'' he => by cases e with
            | returned v => exact hK _ v _ rfl he
            | panicked c => exact hQ _ _ _ (by simp) he
            | outgrown => obtain ⟨a, w, he⟩ := he; exact ⟨a, w, hQ _ _ _ (by simp) he⟩)
        | row => exact Rows.mono h (fun v _ he => hK _ v _ rfl he)
        | _ => exact h
      | halt x w' =>
        cases x with
        | panic v => exact hQ _ _ _ (by simp) h
        | _ => exact h
    · rintro ⟨h1, a, w, h2⟩
      exact ⟨h1, a, w, hQ _ _ _ (by simp) h2⟩
  · rename_i hw
    rw [if_neg hw] at h
    exact hK _ undef _ rfl h

theorem put_other {a : Act} {v : Value} {od : Option Nat} {t : Nat} (h : od ≠ some t) : (a.put od v).tmps.getD t undef = a.tmps.getD t undef := by
  cases od with
  | none => rfl
  | some d =>
    have : d ≠ t := fun e => h (by rw [e])
    simp only [Act.put]
    rw [Array.getD_eq_getD_getElem?, Array.getElem?_setIfInBounds_ne (by omega), ← Array.getD_eq_getD_getElem?]
theorem look_tmAt {ops : Array Oper} {q : Nat → PV} {tm : List (Nat × PV)} : ∀ {i t : Nat} {p : PV}, look t (tmAt ops q tm i) = some p → (∃ j < i, dstOf ops j = some t ∧ p = q j) ∨ ((∀ j < i, dstOf ops j ≠ some t) ∧ look t tm = some p)
  | 0, t, p, h => .inr ⟨fun j hj => absurd hj (by omega), h⟩
  | i + 1, t, p, h => by
    have rec_ : look t (tmAt ops q tm i) = some p → dstOf ops i ≠ some t → (∃ j < i + 1, dstOf ops j = some t ∧ p = q j) ∨ ((∀ j < i + 1, dstOf ops j ≠ some t) ∧ look t tm = some p) := by
      intro h hne
      rcases look_tmAt h with ⟨j, h1, h2⟩ | ⟨h1, h2⟩
      · exact .inl ⟨j, by omega, h2⟩
      · refine .inr ⟨fun j hj => ?_, h2⟩
        rcases Nat.lt_or_ge j i with e | e
        · exact h1 j e
        · obtain rfl : j = i := by omega
          exact hne
    simp only [tmAt] at h
    cases hd : dstOf ops i with
    | none => rw [hd] at h; exact rec_ h (by simp [hd])
    | some d =>
      rw [hd] at h
      simp only [pushT, look] at h
      split at h
      · rename_i e; subst e; cases h; exact .inl ⟨i, by omega, hd, rfl⟩
      · rename_i e; exact rec_ h (by rw [hd]; simp; exact fun k => e k.symm)
theorem Obs.const {ops : Array Oper} {A : List (List Nat)} {es : List Nat} {N : Nat} {base : List (Nat × Blk)} {tm : List (Nat × PV)} {q : Nat → PV} {hp : Nat → List (Nat × Blk)} {nn : Nat → Nat} (h : Obs P ops A es N base tm q hp nn) {k : Nat} :
    ∀ (d : Nat), (∀ e ∈ es, e < k + d → e < k) → hp (k + d) = hp k ∧ nn (k + d) = nn k
  | 0, _ => ⟨rfl, rfl⟩
  | d + 1, he => by
    obtain ⟨h1, h2⟩ := Obs.const h d (fun e h1 h2 => he e h1 (by omega))
    have hc : es.contains (k + d) = false := by
      cases hc : es.contains (k + d) with
      | false => rfl
      | true => exact absurd (he _ (mem_of_contains hc) (by omega)) (by omega)
    obtain ⟨h3, h4⟩ := h.keep (k + d) hc
    exact ⟨h3.trans h1, h4.trans h2⟩
theorem Obs.const2 {ops : Array Oper} {A : List (List Nat)} {es : List Nat} {N : Nat} {base : List (Nat × Blk)} {tm : List (Nat × PV)} {q : Nat → PV} {hp : Nat → List (Nat × Blk)} {nn : Nat → Nat} (h : Obs P ops A es N base tm q hp nn) {k m : Nat}
    (he : ∀ e ∈ es, e < k ↔ e < m) : hp m = hp k ∧ nn m = nn k := by
  rcases Nat.le_total k m with hle | hle
  · obtain ⟨d, rfl⟩ := Nat.exists_eq_add_of_le hle
    exact h.const d fun e h1 h2 => (he e h1).2 h2
  · obtain ⟨d, rfl⟩ := Nat.exists_eq_add_of_le hle
    obtain ⟨h1, h2⟩ := h.const (k := m) d fun e h1 h2 => (he e h1).1 h2
    exact ⟨h1.symm, h2.symm⟩

/-- What stays, stays wherever something of free order is still to do. -/
theorem Obs.base {ops : Array Oper} {A : List (List Nat)} {es : List Nat} {N : Nat} {base : List (Nat × Blk)} {tm : List (Nat × PV)} {q : Nat → PV} {hp : Nat → List (Nat × Blk)} {nn : Nat → Nat} (h : Obs P ops A es N base tm q hp nn)
    (h0 : Keep base (hp 0)) {i : Nat} (hi : i < ops.size) (hf : freeB A es i = true) : ∀ k, (∀ e ∈ es, e < k → e < ops.size ∧ i ∉ ancAt A e) → Keep base (hp k)
  | 0, _ => h0
  | k + 1, hk => by
    by_cases hc : es.contains k = true
    · obtain ⟨h1, h2⟩ := hk k (mem_of_contains hc) (by omega)
      refine h.keepb k h1 hc ?_
      simp only [needB, List.any_eq_true, List.mem_range, Bool.and_eq_true, Bool.not_eq_true']
      exact ⟨i, hi, hf, by simpa using h2⟩
    · rw [(h.keep k (by simpa using hc)).1]
      exact Obs.base h h0 hi hf k fun e he hlt => hk e he (by omega)
structure DInv (ops : Array Oper) (A : List (List Nat)) (es : List Nat) (N lo : Nat) (tm0 : List (Nat × PV)) (q : Nat → PV) (hp : Nat → List (Nat × Blk)) (nn : Nat → Nat) (B0 : Fr) (w0 : World) (φ0 : Phi) (F0 : FMem) (L : Array Bool) (a : Act) (w : World) : Prop where
  sz : L.size = ops.size
  closed : ∀ j < ops.size, L.getD j true = true → ∀ i ∈ ancAt A j, L.getD i true = true
  st : ∃ k F φ, (∀ e ∈ es, (L.getD e true = true ↔ e < k)) ∧ Sim B0 w0 φ0 F0 ⟨[], N, hp k, lo, nn k⟩ F φ a w ∧ (∀ j < ops.size, L.getD j true = true → ∀ d, dstOf ops j = some d → VR F φ (q j) (a.tmps.getD d undef)) ∧
    (∀ t p, look t tm0 = some p → (∀ j < ops.size, dstOf ops j = some t → L.getD j true = false) → VR F φ p (a.tmps.getD t undef))

theorem getD_set {L : Array Bool} {i j : Nat} (hi : i < L.size) : (L.setIfInBounds i true).getD j true = if j = i then true else L.getD j true := by
  rw [Array.getD_eq_getD_getElem?, Array.getD_eq_getD_getElem?]
  by_cases e : j = i
  · subst e; rw [Array.getElem?_setIfInBounds_self_of_lt hi]; simp
  · rw [Array.getElem?_setIfInBounds_ne (by omega)]; simp [e]

theorem DInv.step {ops : Array Oper} {A : List (List Nat)} {es : List Nat} {N lo : Nat} {base : List (Nat × Blk)} {tm0 : List (Nat × PV)} {q : Nat → PV} {hp : Nat → List (Nat × Blk)} {nn : Nat → Nat} {B0 : Fr} {w0 : World} {φ0 : Phi} {F0 : FMem}
    (C : DOKP ops A es) (O : Obs P ops A es N base tm0 q hp nn) (hb0 : Keep base (hp 0)) {L : Array Bool} {a : Act} {w : World} (I : DInv ops A es N lo tm0 q hp nn B0 w0 φ0 F0 L a w) {i : Nat} (hi : i < ops.size) (hL : L.getD i true = false) (hdir : ∀ j ∈ dirOf ops i, L.getD j true = true)
    {Q : Exit → Act → World → Prop} {K : Act → World → Prop} (hK : ∀ a' w', DInv ops A es N lo tm0 q hp nn B0 w0 φ0 F0 (L.setIfInBounds i true) a' w' → K a' w') : wpOp P ops Q i K a w := by
  obtain ⟨hsz, hcl, k, F, φ, hk, hs, hv, hb⟩ := I
  obtain ⟨o, ho⟩ : ∃ o, ops[i]? = some o := ⟨ops[i], Array.getElem?_eq_getElem hi⟩
  have hdo : dstOf ops i = o.dst := by simp [dstOf, ho]
  have hanc : ∀ j ∈ ancAt A i, L.getD j true = true := by
    intro j hj
    rcases C.anc i hi j hj with h | ⟨m, h1, h2⟩
    · exact hdir j h
    · exact hcl m (Nat.lt_trans (C.dirlt i hi m h1) hi) (hdir m h1) j h2
  have hnot : ∀ j < ops.size, i ∈ ancAt A j ∨ i = j → L.getD j true = false := by
    rintro j hj (h | rfl)
    · cases e : L.getD j true with
      | false => rfl
      | true => have := hcl j hj e i h; rw [hL] at this; cases this
    · exact hL
  -- the state that is looked at
  have hsel : Sim B0 w0 φ F ⟨sel ops o (tmAt ops q tm0 i), N, hp k, nn k, nn k⟩ F φ a w := by
    refine { below := hs.below, base := hs.base, fok := hs.fok, fle := FMem.le_refl F, fnew := fun a h => absurd rfl h, phi0 := fun _ _ => rfl, lo := Nat.le_refl _, fresh := hs.fresh, size := hs.size, defers := hs.defers, tm := ?_, heap := hs.heap, inj := hs.inj }
    intro t p h
    obtain ⟨h1, rfl⟩ := look_sel h
    cases e : look t (tmAt ops q tm0 i) with
    | none => exact .undef _
    | some p =>
      rcases look_tmAt e with ⟨j, h2, h3, rfl⟩ | ⟨h2, h3⟩
      · rcases C.vis i hi o ho t h1 j (by omega) h3 with h | h | h
        · exact hv j (by omega) (hanc j h) t h3
        · exact absurd (C.anclt j (by omega) i h) (by omega)
        · omega
      · refine hb t p h3 (fun j hj hd => ?_)
        rcases C.vis i hi o ho t h1 j hj hd with h | h
        · exact absurd hd (h2 j (C.anclt i hi j h))
        · exact hnot j hj h
  -- what is known of it
  have hcmp : ∀ e ∈ es, (e ∈ ancAt A i ∨ i ∈ ancAt A e ∨ i = e) → (e < k ↔ e < i) := by
    intro e he h
    rw [← hk e he]
    rcases h with h | h | h
    · exact ⟨fun _ => C.anclt i hi e h, fun _ => hanc e h⟩
    · have h1 := hnot e (C.eff e he).1 (.inl h)
      have h2 := C.anclt e (C.eff e he).1 i h
      rw [h1]; constructor
      · intro h; cases h
      · intro h; omega
    · subst h; rw [hL]; constructor
      · intro h; cases h
      · intro h; omega
  have hob : ∃ k', (∀ e ∈ es, ((L.setIfInBounds i true).getD e true = true ↔ e < k')) ∧ OneOp P ops o (tmAt ops q tm0 i) N (hp k) (nn k) (q i) (hp k') (nn k') := by
    have h0 := O.ob i o ho
    by_cases hf : freeB A es i = true
    · rw [if_pos hf] at h0
      refine ⟨k, fun e he => ?_, h0 _ _ (O.base hb0 hi hf k fun e he hlt => ⟨(C.eff e he).1, fun hm => ?_⟩)⟩
      rotate_left
      · have := hnot e (C.eff e he).1 (.inl hm)
        rw [(hk e he).2 hlt] at this; cases this
      rw [getD_set (by omega)]
      by_cases e1 : e = i
      · subst e1
        exfalso
        simp only [freeB, List.any_eq_true, Bool.not_eq_true'] at hf
        obtain ⟨e2, h2, h3⟩ := hf
        have := (C.eff e he).2 e2 h2
        simp only [cmpB, Bool.or_eq_false_iff, beq_eq_false_iff_ne] at h3
        rcases this with h | h | h
        · have := h3.1.1; simp at this; exact this h
        · have := h3.1.2; simp at this; exact this h
        · exact h3.2 h
      · rw [if_neg e1]; exact hk e he
    · rw [if_neg hf] at h0
      have hall : ∀ e ∈ es, (e < k ↔ e < i) := by
        intro e he
        refine hcmp e he ?_
        have : cmpB A i e = true := by
          cases e2 : cmpB A i e with
          | true => rfl
          | false => exact absurd (by simp only [freeB, List.any_eq_true, Bool.not_eq_true']; exact ⟨e, he, e2⟩) hf
        exact cmpB_spec this
      obtain ⟨e1, e2⟩ := O.const2 hall
      rw [e1, e2] at h0
      by_cases hie : es.contains i = true
      · refine ⟨i + 1, fun e he => ?_, h0⟩
        rw [getD_set (by omega)]
        by_cases e3 : e = i
        · subst e3; simp
        · rw [if_neg e3, hk e he, hall e he]; omega
      · have hie' : es.contains i = false := by simpa using hie
        obtain ⟨e3, e4⟩ := O.keep i hie'
        rw [e3, e4, e1, e2] at h0
        refine ⟨k, fun e he => ?_, h0⟩
        rw [getD_set (by omega)]
        by_cases e5 : e = i
        · subst e5; exact absurd (by simpa using he) hie
        · rw [if_neg e5]; exact hk e he
  obtain ⟨k', hk', h1⟩ := hob
  have h2 := h1 B0 w0 φ F F φ a w hsel (fun e a' w' => (e = .normal ∧ ∃ s' F' φ', ((∀ d, o.dst = some d → look d s'.tm = some (q i)) ∧ s'.heap = hp k' ∧ s'.n = nn k') ∧ s'.lo = nn k ∧ s'.N = N ∧ Sim B0 w0 φ F s' F' φ' a' w') ∨ (e ≠ .normal ∧ Q e a' w'))
    (fun s' F' φ' a' w' e1 e2 e3 e4 => .inl ⟨rfl, s', F', φ', e1, e2, e3, e4⟩)
  refine wpOp_of_one ho h2 ?_ ?_
  · rintro a' v w' htm (⟨_, s', F', φ', ⟨hq, hh, hn⟩, hlo, hN, hs'⟩ | ⟨hne, _⟩)
    · apply hK
      have hφ : φ.le φ' := by
        intro b x hx
        have hlt : b < nn k := by
          rcases Nat.lt_or_ge b (nn k) with h | h
          · exact h
          · rw [hs.fresh b h] at hx; cases hx
        rw [hs'.phi0 b (by rw [hlo]; exact hlt)]; exact hx
      refine ⟨by simpa using hsz, fun j hj hLj m hm => ?_, k', F', φ', hk', ?_, fun j hj hLj d hd => ?_, fun t p hp_ hd => ?_⟩
      · rw [getD_set (by omega)] at hLj ⊢
        by_cases e : m = i
        · rw [if_pos e]
        · rw [if_neg e]
          by_cases e2 : j = i
          · subst e2; exact hanc m hm
          · rw [if_neg e2] at hLj; exact hcl j hj hLj m hm
      · refine { below := hs'.below, base := hs'.base, fok := hs'.fok, fle := FMem.le_trans hs.fle hs'.fle, fnew := fun x hx => ?_, phi0 := fun b hb => ?_, lo := ?_, fresh := fun b hb => hs'.fresh b (by rw [hn]; exact hb), size := hs'.size.trans hN, defers := hs'.defers, tm := fun _ _ h => (by cases h), heap := fun b kk hb => hs'.heap b kk (by rw [hh]; exact hb), inj := fun b b' k1 k2 B s1 s2 e1 e2 => hs'.inj b b' k1 k2 B s1 s2 (by rw [hh]; exact e1) (by rw [hh]; exact e2) }
        · by_cases e : F' x = F x
          · rw [e] at hx; exact hs.fnew x hx
          · exact hs'.fnew x e
        · have hb' : b < lo := hb
          have := hs.lo
          rw [hs'.phi0 b (by rw [hlo]; exact Nat.lt_of_lt_of_le hb' this)]; exact hs.phi0 b hb
        · have h1 := hs'.lo; rw [hlo, hn] at h1; exact Nat.le_trans hs.lo h1
      · by_cases e : j = i
        · subst e
          exact hs'.tm d (q j) (hq d (by rw [← hdo]; exact hd))
        · rw [getD_set (by omega), if_neg e] at hLj
          rw [htm, put_other (by rw [← hdo]; exact C.apart j hj i hi e d hd)]
          exact (hv j hj hLj d hd).mono (hs'.fle) hφ
      · have e1 : dstOf ops i ≠ some t := fun h => by have := hd i hi h; rw [getD_set (by omega), if_pos rfl] at this; cases this
        rw [htm, put_other (by rw [← hdo]; exact e1)]
        refine (hb t p hp_ (fun j hj h => ?_)).mono hs'.fle hφ
        have := hd j hj h
        rw [getD_set (by omega)] at this
        split at this
        · cases this
        · exact this
    · exact absurd rfl hne
  · rintro e a w he (⟨h, _⟩ | ⟨_, h⟩)
    · exact absurd h he
    · exact h

def missing (ops : Array Oper) (L : Array Bool) : Nat := (List.range ops.size).countP fun j => !L.getD j true
theorem countP_lt {p p' : Nat → Bool} : ∀ (l : List Nat) (i : Nat), i ∈ l → p i = true → p' i = false → (∀ j, p' j = true → p j = true) → l.countP p' < l.countP p
  | x :: l, i, hm, h1, h2, h3 => by
    have hle : l.countP p' ≤ l.countP p := List.countP_mono_left (fun j _ => h3 j)
    rw [List.countP_cons, List.countP_cons]
    rcases List.mem_cons.1 hm with rfl | hm
    · rw [if_pos h1, if_neg (by simp [h2])]; omega
    · have := countP_lt l i hm h1 h2 h3
      by_cases e : p' x = true
      · rw [if_pos e, if_pos (h3 x e)]; omega
      · rw [if_neg e]; omega
theorem missing_set {ops : Array Oper} {L : Array Bool} (hs : L.size = ops.size) {i : Nat} (hi : i < ops.size) (h : L.getD i true = false) : missing ops (L.setIfInBounds i true) < missing ops L := by
  unfold missing
  refine countP_lt _ i (List.mem_range.2 hi) (by simp [h]) ?_ (fun j hj => ?_)
  · rw [getD_set (by omega)]; simp
  · rw [getD_set (by omega)] at hj
    split at hj
    · cases hj
    · exact hj
theorem mem_ready {ops : Array Oper} {L : Array Bool} (hs : L.size = ops.size) (hlt : ∀ j < ops.size, ∀ i ∈ dirOf ops j, i < j) {i : Nat} : i ∈ Region.ready .any ops L ↔ i < ops.size ∧ L.getD i true = false ∧ ∀ j ∈ dirOf ops i, L.getD j true = true := by
  have hdef : ∀ j, j < ops.size → L.getD j false = L.getD j true := by
    intro j hj
    rw [Array.getD_eq_getD_getElem?, Array.getD_eq_getD_getElem?, Array.getElem?_eq_getElem (by omega)]; rfl
  simp only [Region.ready, List.mem_filter, List.mem_range, Bool.and_eq_true, Bool.not_eq_true']
  refine and_congr_right fun hi => and_congr_right fun _ => ?_
  have hlt := hlt i hi
  rw [Array.getElem?_eq_getElem hi]
  simp only [dirOf, Array.getElem?_eq_getElem hi] at hlt ⊢
  simp only [Option.map_some, Option.getD_some, Array.all_eq_true_iff_forall_mem, List.mem_map, List.mem_filter, Array.mem_toList_iff] at hlt ⊢
  constructor
  · rintro h j ⟨e, ⟨h1, h2⟩, rfl⟩
    have := h e h1
    rw [h2] at this
    simp at this
    rw [← hdef _ (by have := hlt _ ⟨e, ⟨h1, h2⟩, rfl⟩; omega)]
    simpa using this
  · intro h e h1
    cases h2 : Region.binds .any e with
    | false => rfl
    | true =>
      have h3 := h _ ⟨e, ⟨h1, h2⟩, rfl⟩
      rw [← hdef _ (by have := hlt _ ⟨e, ⟨h1, h2⟩, rfl⟩; omega)] at h3
      simpa using h3
theorem DInv.all {ops : Array Oper} {A : List (List Nat)} {es : List Nat} {N lo : Nat} {base : List (Nat × Blk)} {tm0 : List (Nat × PV)} {q : Nat → PV} {hp : Nat → List (Nat × Blk)} {nn : Nat → Nat} {B0 : Fr} {w0 : World} {φ0 : Phi} {F0 : FMem}
    (C : DOKP ops A es) (O : Obs P ops A es N base tm0 q hp nn) (hb0 : Keep base (hp 0)) {Q : Exit → Act → World → Prop} (hQ : ∀ F φ a w, Sim B0 w0 φ0 F0 ⟨tmAt ops q tm0 ops.size, N, hp ops.size, lo, nn ops.size⟩ F φ a w → Q .normal a w) :
    ∀ (fuel : Nat) (L : Array Bool) (a : Act) (w : World), DInv ops A es N lo tm0 q hp nn B0 w0 φ0 F0 L a w → missing ops L ≤ fuel → wpAny P .any ops Q fuel L a w := by
  have fin : ∀ (L : Array Bool) (a : Act) (w : World), DInv ops A es N lo tm0 q hp nn B0 w0 φ0 F0 L a w → Region.ready .any ops L = [] → Q .normal a w := by
    intro L a w I hr
    have all : ∀ j, j < ops.size → L.getD j true = true := by
      intro j
      induction j using Nat.strongRecOn with
      | _ j ih =>
        intro hj
        cases e : L.getD j true with
        | true => rfl
        | false =>
          have : j ∈ Region.ready .any ops L := (mem_ready I.sz C.dirlt).2 ⟨hj, e, fun i hi => ih i (C.dirlt j hj i hi) (by have := C.dirlt j hj i hi; omega)⟩
          rw [hr] at this; cases this
    obtain ⟨hsz, hcl, k, F, φ, hk, hs, hv, hb⟩ := I
    obtain ⟨e1, e2⟩ := O.const2 (k := k) (m := ops.size) (fun e he => by rw [← hk e he]; exact ⟨fun _ => (C.eff e he).1, fun h => all e h⟩)
    refine hQ F φ a w { hs with fresh := by rw [e2]; exact hs.fresh, lo := by rw [e2]; exact hs.lo, tm := fun t p h => ?_, heap := by rw [e1]; exact hs.heap, inj := by rw [e1]; exact hs.inj }
    rcases look_tmAt h with ⟨j, h1, h2, rfl⟩ | ⟨h1, h2⟩
    · exact hv j h1 (all j h1) t h2
    · exact hb t p h2 (fun j hj hd => absurd hd (h1 j hj))
  intro fuel
  induction fuel with
  | zero =>
    intro L a w I hm
    have hr : Region.ready .any ops L = [] := by
      cases hr : Region.ready .any ops L with
      | nil => rfl
      | cons i l =>
        have : i ∈ Region.ready .any ops L := by rw [hr]; exact List.mem_cons_self
        obtain ⟨h1, h2, _⟩ := (mem_ready I.sz C.dirlt).1 this
        have := missing_set I.sz h1 h2
        omega
    exact ⟨hr, fin L a w I hr⟩
  | succ fuel ih =>
    intro L a w I hm
    refine ⟨fun hr => fin L a w I hr, fun i hi => ?_⟩
    obtain ⟨h1, h2, h3⟩ := (mem_ready I.sz C.dirlt).1 hi
    have := missing_set I.sz h1 h2
    exact I.step C O hb0 h1 h2 h3 (fun a' w' I' => ih _ a' w' I' (by omega))
theorem Keep.nil {hp : List (Nat × Blk)} : Keep [] hp := fun _ _ h => by cases h
theorem Keep.of {base hp : List (Nat × Blk)} (h : subT base hp) : Keep base hp := subT_look h
/-- On to one state. -/
def only (s2 : St) : Ex → St → Prop
  | .normal, s => Sub s2 s
  | _, _ => False
end Go.Proofs.YtdiimgkopknbcaaGreatDoor.E
