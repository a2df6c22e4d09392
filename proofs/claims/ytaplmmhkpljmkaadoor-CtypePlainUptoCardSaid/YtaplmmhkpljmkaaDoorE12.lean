/- The engine: states that know less: fewer things, blocks by other numbers, rows that nobody writes any more; loops whose blocks are renewed. -/
import Derived.Test.YtaplmmhkpljmkaaDoorE11
namespace Go.Proofs.YtaplmmhkpljmkaaDoor.E
open Go Go.RowKit
set_option linter.unusedVariables false
set_option linter.unusedSimpArgs false
variable {P : Program}

/-- What is known at s2 is known at s, perhaps after something is written off. -/
structure Less (s2 s : St) : Prop where
  lo : s2.lo = s.lo
  N : s2.N = s.N
  sim : ∀ {B0 w0 φ0 F0 F φ a w}, Sim B0 w0 φ0 F0 s F φ a w → ∃ F' φ', Sim B0 w0 φ0 F0 s2 F' φ' a w
theorem Sub.less {s2 s : St} (h : Sub s2 s) : Less s2 s := ⟨h.lo, h.N, fun hs => let ⟨φ', h'⟩ := hs.sub h; ⟨_, φ', h'⟩⟩
theorem Less.trans {s3 s2 s : St} (h : Less s3 s2) (k : Less s2 s) : Less s3 s := ⟨h.lo.trans k.lo, h.N.trans k.N, fun hs => let ⟨_, _, h'⟩ := k.sim hs; h.sim h'⟩
theorem Tri.less {c : Code} {Q : Ex → St → Prop} {s s2 : St} (hs : Less s2 s) (h : Tri P c Q s2) : Tri P c Q s := by
  intro B0 w0 φ0 F0 F φ a w hsim
  obtain ⟨F', φ', h'⟩ := hs.sim hsim
  refine wp_mono (h B0 w0 φ0 F0 F' φ' a w h') ?_
  rintro e a' w' ⟨x, s', F', φ', he, hq, h1, h2, hs'⟩
  exact ⟨x, s', F', φ', he, hq, h1.trans hs.lo, h2.trans hs.N, hs'⟩
theorem Tri.postL {c : Code} {Q : Ex → St → Prop} {s : St} (h : Tri P c (fun x s' => ∃ s2, Less s2 s' ∧ Q x s2) s) : Tri P c Q s := by
  intro B0 w0 φ0 F0 F φ a w hsim
  refine wp_mono (h B0 w0 φ0 F0 F φ a w hsim) ?_
  rintro e a' w' ⟨x, s', F', φ', he, ⟨s2, hs2, hq⟩, h1, h2, hs'⟩
  obtain ⟨F2, φ2, h'⟩ := hs2.sim hs'
  exact ⟨x, s2, F2, φ2, he, hq, hs2.lo.trans h1, hs2.N.trans h2, h'⟩
/-- A loop whose state is told by a parameter; its blocks may have other numbers behind each round. -/
theorem Tri.loopL {α : Type} {c : Code} {Q : Ex → St → Prop} {s : St} (S : α → St) (inv : α → Prop) (μ : α → Nat) (a0 : α) (h0 : inv a0) (hsub : Less (S a0) s)
    (round : ∀ a, inv a → Tri P c (after Q (fun s2 => ∃ a', inv a' ∧ μ a' < μ a ∧ Less (S a') s2)) (S a)) : Tri P (.loop c) Q s := by
  refine Tri.less hsub ?_
  intro B0 w0 φ0 F0 F φ a w hs
  let J : Act → World → Nat → Prop := fun a w n => ∃ x F φ, inv x ∧ (S x).lo = (S a0).lo ∧ (S x).N = (S a0).N ∧ Sim B0 w0 φ0 F0 (S x) F φ a w ∧ μ x = n
  refine wp_loop (fun a w => ∃ n, J a w n) (fun a w => leastOf (J a w)) ⟨_, a0, F, φ, h0, rfl, rfl, hs, rfl⟩ ?_
  intro a w hJ
  have hm : J a w (leastOf (J a w)) := leastOf_spec hJ
  obtain ⟨x, F, φ, hI, h1, h2, hsim, hμ⟩ := hm
  refine wp_mono (round x hI B0 w0 φ0 F0 F φ a w hsim) ?_
  rintro e a' w' ⟨x', s2, F2, φ2, rfl, hq, h12, h22, hs2⟩
  cases x' with
  | normal =>
    obtain ⟨y, hy, hlt, hl⟩ := hq
    obtain ⟨F3, φ3, hs3⟩ := hl.sim hs2
    have hJ3 : J a' w' (μ y) := ⟨y, F3, φ3, hy, hl.lo.trans (h12.trans h1), hl.N.trans (h22.trans h2), hs3, rfl⟩
    refine ⟨⟨_, hJ3⟩, ?_⟩
    have : leastOf (J a' w') ≤ μ y := leastOf_le hJ3
    omega
  | ret => exact ⟨.ret, s2, F2, φ2, rfl, hq, h12.trans h1, h22.trans h2, hs2⟩
  | exit id => exact ⟨.exit id, s2, F2, φ2, rfl, hq, h12.trans h1, h22.trans h2, hs2⟩

/-! ### blocks by other numbers -/
mutual
def PV.ren (ρ : Nat → Nat) : PV → PV
  | .ref b e off len cap => .ref (ρ b) e off len cap
  | .ptr b off => .ptr (ρ b) off
  | .rptr b e i off => .rptr (ρ b) e i off
  | .agg ps => .agg (PV.rens ρ ps)
  | .tup ps => .tup (PV.rens ρ ps)
  | .fn f ps => .fn f (PV.rens ρ ps)
  | .cond b w p => .cond b w (PV.ren ρ p)
  | .undef => .undef
  | .t x => .t x
  | .eptr x o => .eptr x o
  | .clip xs => .clip xs
def PV.rens (ρ : Nat → Nat) : List PV → List PV
  | [] => []
  | p :: ps => PV.ren ρ p :: PV.rens ρ ps
end
theorem PV.rens_get {ρ : Nat → Nat} : ∀ (ps : List PV) (i : Nat), (PV.rens ρ ps)[i]? = ps[i]?.map (PV.ren ρ)
  | [], i => by simp [PV.rens]
  | p :: ps, 0 => rfl
  | p :: ps, i + 1 => by simpa [PV.rens] using PV.rens_get ps i
theorem PV.rens_length {ρ : Nat → Nat} : ∀ (ps : List PV), (PV.rens ρ ps).length = ps.length
  | [] => rfl
  | p :: ps => by simp [PV.rens, PV.rens_length ps]
def Blk.ren (ρ : Nat → Nat) : Blk → Blk
  | .obj cells => .obj (PV.rens ρ cells)
  | .row e xs fz => .row e xs fz
def Phi.ren (φ : Phi) (ρ : Nat → Nat) (m : Nat) : Phi := fun b => if b < m then φ (ρ b) else none
theorem VR.ren {F : FMem} {φ : Phi} {ρ : Nat → Nat} {m : Nat} {q : PV} {v : Value} (h : VR F φ q v) : ∀ p, PV.ren ρ p = q → PV.lt m p = true → VR F (φ.ren ρ m) p v := by
  have key : ∀ b x, φ (ρ b) = some x → Nat.blt b m = true → (φ.ren ρ m) b = some x := by
    intro b x h1 h2
    rw [Phi.ren, if_pos (by simpa [Nat.blt_eq] using h2)]; exact h1
  induction h with
  | undef v => intro p hp _; cases p <;> simp only [PV.ren, reduceCtorEq] at hp; exact .undef v
  | t h => intro p hp _; cases p <;> simp only [PV.ren, reduceCtorEq] at hp; cases hp; exact .t h
  | ref hb h1 h2 h3 =>
    intro p hp hl; cases p <;> simp only [PV.ren, reduceCtorEq] at hp
    cases hp; exact .ref (key _ _ hb (by simpa [PV.lt] using hl)) h1 h2 h3
  | ptr hb =>
    intro p hp hl; cases p <;> simp only [PV.ren, reduceCtorEq] at hp
    cases hp; exact .ptr (key _ _ hb (by simpa [PV.lt] using hl))
  | rptr hb =>
    intro p hp hl; cases p <;> simp only [PV.ren, reduceCtorEq] at hp
    cases hp; exact .rptr (key _ _ hb (by simpa [PV.lt] using hl))
  | eptr us h => intro p hp _; cases p <;> simp only [PV.ren, reduceCtorEq] at hp; cases hp; exact .eptr us h
  | clip us h => intro p hp _; cases p <;> simp only [PV.ren, reduceCtorEq] at hp; cases hp; exact .clip us h
  | agg hn h ih =>
    intro p hp hl; cases p <;> simp only [PV.ren, reduceCtorEq] at hp
    rename_i ps; cases hp
    rw [PV.rens_length] at hn
    exact .agg hn (fun i p u h1 h2 => ih i _ u (by rw [PV.rens_get, h1]; rfl) h2 p rfl (PV.lts_get (by simpa [PV.lt] using hl) i p h1))
  | tup hn h ih =>
    intro p hp hl; cases p <;> simp only [PV.ren, reduceCtorEq] at hp
    rename_i ps; cases hp
    rw [PV.rens_length] at hn
    exact .tup hn (fun i p u h1 h2 => ih i _ u (by rw [PV.rens_get, h1]; rfl) h2 p rfl (PV.lts_get (by simpa [PV.lt] using hl) i p h1))
  | fn hn h ih =>
    intro p hp hl; cases p <;> simp only [PV.ren, reduceCtorEq] at hp
    rename_i f ps; cases hp
    rw [PV.rens_length] at hn
    exact .fn hn (fun i p u h1 h2 => ih i _ u (by rw [PV.rens_get, h1]; rfl) h2 p rfl (PV.lts_get (by simpa [PV.lt] using hl) i p h1))
  | cond h hn ih =>
    intro p hp hl; cases p <;> simp only [PV.ren, reduceCtorEq] at hp
    rename_i p; cases hp
    exact .cond (fun e => ih e p rfl (by simpa [PV.lt] using hl)) hn
/-- s2 is s, with other numbers, and less is known. -/
structure Ren (ρ : Nat → Nat) (s2 s : St) : Prop where
  N : s2.N = s.N
  lo : s2.lo = s.lo
  lon : s2.lo ≤ s2.n
  low : ∀ b, b < s2.lo → ρ b = b
  tm : ∀ i p, look i s2.tm = some p → look i s.tm = some (p.ren ρ) ∧ PV.lt s2.n p = true
  heap : ∀ b k, look b s2.heap = some k → look (ρ b) s.heap = some (k.ren ρ) ∧ b < s2.n ∧ Blk.lt s2.n k = true
  inj : ∀ b b' k k', look b s2.heap = some k → look b' s2.heap = some k' → ρ b = ρ b' → b = b'
theorem Ren.less {ρ : Nat → Nat} {s2 s : St} (hs : Ren ρ s2 s) : Less s2 s := by
  refine ⟨hs.lo, hs.N, fun {B0 w0 φ0 F0 F φ a w} h => ⟨F, φ.ren ρ s2.n, ⟨h.below, h.base, h.fok, h.fle, h.fnew, fun b hb => ?_, hs.lon, fun b hb => ?_, h.size.trans hs.N.symm, h.defers, fun i p hp => ?_, fun b k hk => ?_, fun b b' k k' B sz sz' h1 h2 h3 h4 => ?_⟩⟩⟩
  · rw [Phi.ren, if_pos (Nat.lt_of_lt_of_le hb hs.lon), hs.low b hb]
    exact h.phi0 b (by rw [← hs.lo]; exact hb)
  · rw [Phi.ren, if_neg (by omega)]
  · obtain ⟨h1, h2⟩ := hs.tm i p hp
    exact (h.tm i _ h1).ren p rfl h2
  · obtain ⟨h1, h2, h3⟩ := hs.heap b k hk
    obtain ⟨B, cs, hl⟩ := h.heap _ _ h1
    refine ⟨B, cs, ⟨by rw [Phi.ren, if_pos h2]; exact hl.at_, hl.old, hl.cells, ?_⟩⟩
    have hr := hl.reads
    cases k with
    | obj cells =>
      simp only [Blk.ren] at hr
      cases hr with
      | obj hn' hr hF =>
        rw [PV.rens_length] at hn'
        exact .obj hn' (fun i p hp => let ⟨u, q1, q2⟩ := hr i _ (by rw [PV.rens_get, hp]; rfl); ⟨u, q1, q2.ren p rfl (PV.lts_get h3 i p hp)⟩) hF
    | row e xs fz =>
      simp only [Blk.ren] at hr
      cases hr with
      | row hn' he hr hF => exact .row hn' he hr hF
  · obtain ⟨g1, g2, _⟩ := hs.heap _ _ h1
    obtain ⟨g3, g4, _⟩ := hs.heap _ _ h2
    rw [Phi.ren, if_pos g2] at h3
    rw [Phi.ren, if_pos g4] at h4
    exact hs.inj b b' k k' h1 h2 (h.inj _ _ _ _ B sz sz' g1 g3 h3 h4)
def renT (ρ : Nat → Nat) : List (Nat × PV) → List (Nat × PV) → Prop
  | [], _ => True
  | (i, p) :: l, m => look i m = some (p.ren ρ) ∧ renT ρ l m
def renB (ρ : Nat → Nat) : List (Nat × Blk) → List (Nat × Blk) → Prop
  | [], _ => True
  | (i, p) :: l, m => look (ρ i) m = some (p.ren ρ) ∧ renB ρ l m
theorem renT_look {ρ : Nat → Nat} : ∀ {l m : List (Nat × PV)}, renT ρ l m → ∀ i p, look i l = some p → look i m = some (p.ren ρ)
  | [], _, _, i, p, h => by cases h
  | (j, q) :: l, m, hs, i, p, h => by
    simp only [look] at h
    split at h
    · rename_i e; subst e; cases h; exact hs.1
    · exact renT_look hs.2 i p h
theorem renB_look {ρ : Nat → Nat} : ∀ {l m : List (Nat × Blk)}, renB ρ l m → ∀ i p, look i l = some p → look (ρ i) m = some (p.ren ρ)
  | [], _, _, i, p, h => by cases h
  | (j, q) :: l, m, hs, i, p, h => by
    simp only [look] at h
    split at h
    · rename_i e; subst e; cases h; exact hs.1
    · exact renB_look hs.2 i p h
def keys {α : Type} (l : List (Nat × α)) : List Nat := l.map (·.1)
theorem look_key {α : Type} : ∀ {l : List (Nat × α)} {i : Nat} {x : α}, look i l = some x → i ∈ keys l
  | [], i, x, h => by cases h
  | (j, q) :: l, i, x, h => by
    simp only [look] at h
    split at h
    · rename_i e; subst e; simp [keys]
    · have := look_key h; simp only [keys, List.map_cons, List.mem_cons] at this ⊢; exact .inr this
def injOn (ρ : Nat → Nat) (l : List Nat) : Bool := l.all fun i => l.all fun j => ρ i != ρ j || i == j
theorem Less.ren (ρ : Nat → Nat) {tm tm2 : List (Nat × PV)} {N : Nat} {hp hp2 : List (Nat × Blk)} {lo n n2 : Nat} (hlo : Nat.ble lo n2 = true) (hlow : (List.range lo).all (fun b => ρ b == b) = true) (ht : renT ρ tm2 tm) (hh : renB ρ hp2 hp) (h1 : ltT n2 tm2 = true) (h2 : ltB n2 hp2 = true) (hi : injOn ρ (keys hp2) = true) : Less ⟨tm2, N, hp2, lo, n2⟩ ⟨tm, N, hp, lo, n⟩ :=
  Ren.less (ρ := ρ) ⟨rfl, rfl, by simpa [Nat.ble_eq] using hlo, fun b hb => by simpa using List.all_eq_true.1 hlow b (List.mem_range.2 hb), fun i p h => ⟨renT_look ht i p h, ltT_look h1 i p h⟩, fun i p h => ⟨renB_look hh i p h, ltB_look h2 i p h⟩, fun b b' k k' q1 q2 e => by
    have := List.all_eq_true.1 (List.all_eq_true.1 hi b (look_key q1)) b' (look_key q2)
    simp only [Bool.or_eq_true, bne_iff_ne, beq_iff_eq] at this
    rcases this with h | h
    · exact absurd e h
    · exact h⟩

/-! ### rows that nobody writes any more -/
/-- A temporary's row is a tree from now on. -/
theorem Less.froz {tm : List (Nat × PV)} {N : Nat} {hp : List (Nat × Blk)} {lo n : Nat} (t : Nat) {b e off len cap : Nat} {ys : List T} {fz : Bool} (h : look t tm = some (.ref b e off len cap)) (hb : look b hp = some (.row e ys fz)) (hl : off + len ≤ ys.length) :
    Less ⟨(t, .t (.sl false ((ys.drop off).take len))) :: tm, N, (b, .row e ys true) :: hp, lo, n⟩ ⟨tm, N, hp, lo, n⟩ := by
  refine ⟨rfl, rfl, fun {B0 w0 φ0 F0 F φ a w} hs => ?_⟩
  obtain ⟨F', k1, k2, k3, k4⟩ := hs.freeze hb
  refine ⟨F', φ, { k3 with tm := fun i p hp => ?_ }⟩
  simp only [look] at hp
  split at hp
  · rename_i e1; subst e1; cases hp
    exact .t (k4 off len cap _ hl (hs.tm _ _ h))
  · exact k3.tm i p hp

/-! ### stores into rows -/
/-- A store into an element (of one cell) of a row of our own. -/
theorem TriO.storeR {ty : Nat} {pos : String} {af : Array Edge} {g : Option (Nat × Bool)} {K : St → Prop} {s : St} {t : TypeId} {x y : Operand} {ds : TypeDesc} {bytes : Nat} {z : Value} {b i : Nat} {xs : List T} {v : T} [ht : TyIs P t ds 1 bytes z] (hx : s.ev x = .rptr b 1 i 0) (hb : look b s.heap = some (.row 1 xs false)) (hy : s.ev y = .t v)
    (hv : v.leaves = [v]) (hf : PV.flat (.t v) = true) (hi : i < xs.length) (hK : K (s.upd b (.row 1 (xs.set i v) false))) : TriO P ⟨none, .store t x y, ty, pos, af, g⟩ K s := by
  refine .act rfl (fun B0 w0 φ0 F0 F φ a w hs => ?_)
  have h1 := hx ▸ hs.ev x
  have h2 := hy ▸ hs.ev y
  generalize he : a.eval x = q at h1
  generalize hu : a.eval y = u at h2
  have hone := h2.one hf
  cases h2 with | t htr =>
  obtain ⟨c1, c2⟩ := htr.cells
  rw [hv] at c1 c2
  obtain ⟨u', hu', htr'⟩ := c2 0 v rfl
  have hcu : u.cells = #[u] := by cases u <;> simp_all [Value.oneCell', Value.cells]
  cases h1 with
  | @rptr _ _ _ _ B sz' hφ =>
    obtain ⟨B', cs, hl⟩ := hs.heap b _ hb
    have := hl.at_; rw [hφ] at this; cases this
    obtain ⟨ct, hct⟩ := hl.cells
    cases hl.reads with
    | row hn hel hr hF =>
      have hil : i < cs.size := by omega
      have hst := run_storeVar_at (P := P) (w := w) ht (B := B) (o := i * 1 + 0) (v := u) hct (by simp [hcu]) (by omega) (by simp [hcu, hone])
      rw [hcu] at hst
      have hcs : i * 1 + 0 + [u].length ≤ cs.toList.length := by simp; omega
      refine ⟨_, s.upd b (.row 1 (xs.set i v) false), F, φ, ?_, rfl, rfl, hs.upd hb hl (cs' := (cs.toList.take (i * 1 + 0) ++ [u] ++ cs.toList.drop (i * 1 + 0 + [u].length)).toArray) ?_ (.row ?_ ?_ ?_ ?_) ?_, hK⟩
      · simp only [execOp, he, hu, Sem.run_bind, hst, Result.andThen_ok]; rfl
      · have := splice_len hcs; simp only [List.size_toArray]; rw [this]; simp
      · have := splice_len hcs; simp only [List.size_toArray]; rw [this]; simp; omega
      · intro j y hj
        rw [List.getElem?_set] at hj
        split at hj
        · cases hj; rw [hv]; rfl
        · exact hel j y hj
      · intro j y k p hj hp
        simp only [List.getElem?_toArray]
        rw [splice_get hcs]
        rw [List.getElem?_set] at hj
        split at hj
        · rename_i e; subst e
          cases hj
          rw [hv] at hp
          cases k with
          | zero => cases hp; exact ⟨u, by simp, htr, hone⟩
          | succ k => simp at hp
        · rename_i hne
          have hk := hel j y hj
          have hk0 : k = 0 := by have := (List.getElem?_eq_some_iff.1 hp).1; omega
          subst hk0
          obtain ⟨w', q1, q2, q3⟩ := hr j y 0 p hj hp
          refine ⟨w', ?_, q2, q3⟩
          simp only [List.length_singleton, Nat.mul_one, Nat.add_zero] at q1 ⊢
          by_cases e1 : j < i
          · rw [if_pos e1]; simpa using q1
          · rw [if_neg e1, if_neg (by omega)]; simpa using q1
      · intro x' u2 e1 e2; have := (hF x' u2 e1 e2).1; cases this
      · intro x' u2 e1 e2; have := (hF x' u2 e1 e2).1; cases this
theorem U.storeR {ty : Nat} {pos : String} {af : Array Edge} {K : St → Prop} {ops : Array Oper} {l_ : List Oper} {tm_ : List (Nat × PV)} {N_ lo_ n_ : Nat} {hp_ : List (Nat × Blk)} {t : TypeId} {x y : Operand} {ds : TypeDesc} {bytes : Nat} {z : Value} {b i : Nat} {xs : List T} {v : T} [ht : TyIs P t ds 1 bytes z] (hx : evt tm_ x = .rptr b 1 i 0) (hb : look b hp_ = some (.row 1 xs false)) (hy : evt tm_ y = .t v)
    (hv : v.leaves = [v]) (hf : PV.flat (.t v) = true) (hi : i < xs.length) (hK : TriL P ops l_ K ⟨tm_, N_, (b, .row 1 (xs.set i v) false) :: hp_, lo_, n_⟩) : TriL P ops (⟨none, .store t x y, ty, pos, af, none⟩ :: l_) K ⟨tm_, N_, hp_, lo_, n_⟩ :=
  .cons rfl (.storeR (s := ⟨tm_, N_, hp_, lo_, n_⟩) hx hb hy hv hf hi hK)

theorem G.litT {ty d : Nat} {pos : String} {af : Array Edge} {K : St → Prop} {ops : Array Oper} {l_ : List Oper} {tm_ : List (Nat × PV)} {N_ lo_ n_ : Nat} {hp_ : List (Nat × Blk)} {j_ g_ : Nat} {e_ want_ : Bool} {t et : TypeId} {n : Nat} {parts : List (Nat × Operand)} {ps : List PV} {ys : List T} {sz bytes e ebytes : Nat} {z ez : Value} {ed : TypeDesc} [ht : TyIs P t (.slice et) sz bytes z] [he : TyIs P et ed e ebytes ez]
    (hp : parts.map (fun x => evt tm_ x.2) = ps) (hy : toTsAll ps = some ys) (hi : inRow 0 parts = true) (hn : parts.length = n) (hf : flatAll e ys = true) (hb : Nat.ble (n * e) 16777216 = true) (he0 : Nat.blt 0 e = true) (hj_ : (ops[j_]?).bind (·.dst) = some g_) (hb_ : gval (evt tm_ (.tmp g_)) want_ = some e_) (hN : Nat.blt d N_ = true)
    (hK : TriL P ops l_ K ⟨(d, .cond e_ true (.t (.sl false ys))) :: tm_, N_, hp_, lo_, n_⟩) : TriL P ops (⟨some d, .buildSlice t n parts.toArray, ty, pos, af, some (j_, want_)⟩ :: l_) K ⟨tm_, N_, hp_, lo_, n_⟩ :=
  .gvo rfl hj_ hb_ rfl hN (VO.litT (s := ⟨tm_, N_, hp_, lo_, n_⟩) hp hy hi hn hf (by simpa [Nat.ble_eq] using hb) (by simpa [Nat.blt_eq] using he0)) hK

/-! ### results in cells -/
theorem Rets.trees {s : St} : ∀ {ls : List PV} {xs : List T}, toTs ls = some xs → Rets s ls (xs.map R1.t)
  | [], xs, h => by cases h; exact .nil
  | p :: ls, xs, h => by
    cases p with
    | t x =>
      simp only [toTs, Option.map_eq_some_iff] at h
      obtain ⟨ys, hy, rfl⟩ := h
      exact .tree rfl (Rets.trees hy)
    | _ => cases h
theorem ComesC.tree {t : Tmp} {sz b : Nat} {x : T} {s : St} {ls : List PV} {xs : List T} (h1 : evt s.tm (.tmp t) = .ptr b 0) (h2 : look b s.heap = some (.obj ls)) (h3 : toTs ls = some xs) (h4 : ls.length = sz) (h5 : T.agg xs = x) : ComesC t sz x .ret s :=
  ⟨.inr rfl, b, ls, xs, h1, h2, h4, h5.symm, .trees h3⟩
theorem ComesC.of {t : Tmp} {sz b : Nat} {x : T} {s : St} {ls ls' : List PV} {rs : List R1} (h1 : evt s.tm (.tmp t) = .ptr b 0) (h2 : look b s.heap = some (.obj ls)) (h3 : ls = ls') (h4 : ls'.length = sz) (hr : Rets s ls' rs) (h5 : ∃ xs, rs = xs.map .t ∧ T.agg xs = x) : ComesC t sz x .ret s := by
  obtain ⟨xs, rfl, h6⟩ := h5
  exact ⟨.inr rfl, b, ls, xs, h1, h2, h3 ▸ h4, h6.symm, h3 ▸ hr⟩
end Go.Proofs.YtaplmmhkpljmkaaDoor.E
