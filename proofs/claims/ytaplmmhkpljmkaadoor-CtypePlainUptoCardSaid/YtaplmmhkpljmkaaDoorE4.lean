/- The engine's rules: stores, literals, append, slicing. -/
import Derived.Test.YtaplmmhkpljmkaaDoorE3
namespace Go.Proofs.YtaplmmhkpljmkaaDoor.E
set_option linter.unusedVariables false
set_option linter.unusedSimpArgs false
open Go Go.RowKit

variable {P : Program}

/-- A value of one cell. -/
def PV.flat : PV → Bool
  | .undef | .agg _ | .tup _ | .t (.agg _) | .cond _ _ _ => false
  | _ => true
theorem VR.one {F : FMem} {φ : Phi} {p : PV} {u : Value} (h : VR F φ p u) (hp : p.flat = true) : u.oneCell' = true := by
  cases h with
  | undef => cases hp
  | t h =>
    cases h with
    | v hs => cases u <;> simp_all [sc, Value.oneCell']
    | nil => rfl
    | sl0 => rfl
    | sl => rfl
    | agg => cases hp
  | agg => cases hp
  | tup => cases hp
  | cond => cases hp
  | _ => rfl
def allFlat : List PV → Bool
  | [] => true
  | p :: ps => PV.flat p && allFlat ps
theorem allFlat_get {ps : List PV} (h : allFlat ps = true) : ∀ (i : Nat) (p : PV), ps[i]? = some p → p.flat = true := by
  induction ps with
  | nil => intro i p hp; simp at hp
  | cons q qs ih =>
    simp only [allFlat, Bool.and_eq_true] at h
    intro i p hp
    cases i with
    | zero => simp at hp; subst hp; exact h.1
    | succ i => exact ih h.2 i p (by simpa using hp)

/-- What lies behind a write of 'vs' at 'o'. -/
theorem splice_get {α : Type} {l vs : List α} {o : Nat} (h : o + vs.length ≤ l.length) (i : Nat) :
    (l.take o ++ vs ++ l.drop (o + vs.length))[i]? = if i < o then l[i]? else if i < o + vs.length then vs[i - o]? else l[i]? := by
  have h1 : (l.take o).length = o := by simp; omega
  by_cases c1 : i < o
  · rw [if_pos c1, List.append_assoc, List.getElem?_append_left (by omega), List.getElem?_take_of_lt c1]
  · rw [if_neg c1]
    by_cases c2 : i < o + vs.length
    · rw [if_pos c2, List.append_assoc, List.getElem?_append_right (by omega), h1, List.getElem?_append_left (by omega)]
    · rw [if_neg c2, List.getElem?_append_right (by simp; omega), List.getElem?_drop]
      congr 1
      simp; omega
theorem splice_len {α : Type} {l vs : List α} {o : Nat} (h : o + vs.length ≤ l.length) : (l.take o ++ vs ++ l.drop (o + vs.length)).length = l.length := by
  simp; omega

section
variable {B0 : Nat} {w0 : World} {φ0 : Phi} {F0 : FMem} {s : St} {F : FMem} {φ : Phi} {a : Act} {w : World}
theorem run_storeVar_at {t : TypeId} {ds : TypeDesc} {sz bytes : Nat} {z : Value} (ht : TyIs P t ds sz bytes z) {B o : Nat} {cs : Array Value} {ty : TypeId} {v : Value} (hB : w.heap[B]? = some (.cells cs ty (0, 0))) (hn : v.cells.size = sz)
    (hr : o + sz ≤ cs.size) (h1 : ∀ u ∈ v.cells.toList, u.oneCell' = true) :
    (Instr.storeAt t (.pointer (some ⟨B, o, none⟩)) v).run P w = .ok () (w.setRow B (cs.toList.take o ++ v.cells.toList ++ cs.toList.drop (o + v.cells.toList.length)).toArray) := by
  have := run_storeCells_at (P := P) B o ty v.cells.toList 0 cs w hB (by simp; omega) h1
  simp only [Nat.add_zero] at this
  simp only [Instr.storeAt, Instr.sureAddr, Sem.run_bind, Sem.run_pure, Result.andThen_ok, storeVar, ht.sizeOf]
  rw [if_neg (by simp [hn])]
  exact this
/-- A store into a variable of our own. -/
theorem Sim.store (h : Sim B0 w0 φ0 F0 s F φ a w) {t : TypeId} {ds : TypeDesc} {sz bytes : Nat} {z : Value} (ht : TyIs P t ds sz bytes z) {b o B sz' : Nat} {ls qs : List PV} {p : PV} {v : Value} (hφ : φ b = some (B, sz')) (hb : look b s.heap = some (.obj ls))
    (hv : VR F φ p v) (hp : p.known = true) (hq : p.leaves = qs) (hn : qs.length = sz) (hf : allFlat qs = true) (hr : o + sz ≤ ls.length) :
    ∃ w', (Instr.storeAt t (.pointer (some ⟨B, o, none⟩)) v).run P w = .ok () w' ∧ Sim B0 w0 φ0 F0 (s.upd b (.obj (ls.take o ++ qs ++ ls.drop (o + qs.length)))) F φ a w' := by
  obtain ⟨h1, h2⟩ := hv.cells hp
  subst hq
  obtain ⟨B', cs, hl⟩ := h.heap b _ hb
  have := hl.at_; rw [hφ] at this; cases this
  obtain ⟨ty, hty⟩ := hl.cells
  cases hl.reads with
  | obj hn' hr' hF =>
    have hcs : o + v.cells.toList.length ≤ cs.toList.length := by simp; omega
    refine ⟨_, run_storeVar_at ht hty (by omega) (by omega) ?_, h.upd hb hl ?_ (.obj ?_ ?_ hF) ?_⟩
    · intro u hu
      obtain ⟨j, hj⟩ := List.mem_iff_getElem?.1 hu
      have hjl := (List.getElem?_eq_some_iff.1 hj).1
      have hjp : j < p.leaves.length := by simp at hjl; omega
      obtain ⟨u', hu', hvr⟩ := h2 j _ (List.getElem?_eq_getElem hjp)
      rw [← Array.getElem?_toList, hj] at hu'; cases hu'
      exact hvr.one (allFlat_get hf j _ (List.getElem?_eq_getElem hjp))
    · have := splice_len hcs; simp only [List.size_toArray]; rw [this]; simp
    · have := splice_len hcs; have h3 := splice_len (l := ls) (vs := p.leaves) (o := o) (by omega)
      simp only [List.size_toArray]; rw [this, h3]; simpa using hn'
    · intro i q hi
      rw [splice_get (by omega)] at hi
      simp only [List.getElem?_toArray]
      rw [splice_get hcs]
      have e1 : v.cells.toList.length = p.leaves.length := by simp [h1]
      rw [e1]
      by_cases c1 : i < o
      · rw [if_pos c1] at hi ⊢
        obtain ⟨u, hu, hvr⟩ := hr' i q hi; exact ⟨u, by simpa using hu, hvr⟩
      · rw [if_neg c1] at hi ⊢
        by_cases c2 : i < o + p.leaves.length
        · rw [if_pos c2] at hi ⊢
          obtain ⟨u, hu, hvr⟩ := h2 _ q hi
          exact ⟨u, by simpa using hu, hvr⟩
        · rw [if_neg c2] at hi ⊢
          obtain ⟨u, hu, hvr⟩ := hr' i q hi; exact ⟨u, by simpa using hu, hvr⟩
    · intro x u e eb; exact absurd eb (hF x u e)
end

section ops
variable {d ty : Nat} {pos : String} {af : Array Edge} {g : Option (Nat × Bool)} {K : St → Prop} {s : St}

theorem TriO.store {t : TypeId} {x y : Operand} {ds : TypeDesc} {sz bytes : Nat} {z : Value} {b o : Nat} {ls qs ls' : List PV} {p : PV} [ht : TyIs P t ds sz bytes z] (hx : s.ev x = .ptr b o) (hb : look b s.heap = some (.obj ls)) (hy : s.ev y = p)
    (hp : p.known = true) (hq : p.leaves = qs) (hn : qs.length = sz) (hf : allFlat qs = true) (hr : Nat.ble (o + sz) ls.length = true) (hl : ls.take o ++ qs ++ ls.drop (o + qs.length) = ls') (hK : K (s.upd b (.obj ls'))) : TriO P ⟨none, .store t x y, ty, pos, af, g⟩ K s := by
  refine .act rfl (fun B0 w0 φ0 F0 F φ a w hs => ?_)
  have hv := hx ▸ hs.ev x
  have hv2 := hy ▸ hs.ev y
  generalize he : a.eval x = q at hv
  cases hv with
  | ptr hφ =>
    obtain ⟨w', hr', hs'⟩ := hs.store ht hφ hb hv2 hp hq hn hf (by simpa [Nat.ble_eq] using hr)
    subst hl
    refine ⟨w', s.upd b _, F, φ, ?_, rfl, rfl, hs', hK⟩
    simp only [execOp, he, Sem.run_bind, hr', Result.andThen_ok]; rfl

/-! ### trees for elements -/
def PV.toT : PV → Option T
  | .t x => some x
  | .agg ps => (toTs ps).map .agg
  | .clip xs => some (.sl false xs)
  | _ => none
theorem PV.toT_tr {F : FMem} {φ : Phi} {p : PV} {x : T} {v : Value} (h : VR F φ p v) (e : p.toT = some x) : TR F x v := by
  cases h with
  | t h => cases e; exact h
  | agg hn h =>
    simp only [PV.toT, Option.map_eq_some_iff] at e
    obtain ⟨xs, hxs, rfl⟩ := e
    have := toTs_some hxs
    subst this
    refine .agg (by simpa using hn) (fun i y u hy hu => ?_)
    have := h i (.t y) u (by simp [hy]) hu
    cases this with | t ht => exact ht
  | clip us h => cases e; exact h.tr (Nat.le_refl _)
  | _ => cases e
def toTsAll : List PV → Option (List T)
  | [] => some []
  | p :: ps => match p.toT, toTsAll ps with
    | some x, some xs => some (x :: xs)
    | _, _ => none
theorem toTsAll_get : ∀ {ps : List PV} {xs : List T}, toTsAll ps = some xs → xs.length = ps.length ∧ ∀ (i : Nat) (p : PV), ps[i]? = some p → ∃ x, xs[i]? = some x ∧ p.toT = some x
  | [], xs, h => by cases h; exact ⟨rfl, fun i p hp => by simp at hp⟩
  | p :: ps, xs, h => by
    simp only [toTsAll] at h
    split at h
    · rename_i x ys h1 h2
      cases h
      obtain ⟨h3, h4⟩ := toTsAll_get h2
      refine ⟨by simp [h3], fun i q hq => ?_⟩
      cases i with
      | zero => simp at hq; subst hq; exact ⟨x, rfl, h1⟩
      | succ i => exact h4 i q (by simpa using hq)
    · cases h
def T.one : T → Bool
  | .agg _ => false
  | _ => true
def T.flatL (x : T) : Bool := x.leaves.all T.one
theorem TR.one {F : FMem} {x : T} {u : Value} (h : TR F x u) (hx : x.one = true) : u.oneCell' = true := by
  cases h with
  | v hs => cases u <;> first | rfl | (simp [sc] at hs)
  | nil => rfl
  | sl0 => rfl
  | sl => rfl
  | agg => cases hx

/-- Cells that are a list of trees. -/
structure CellsOf (F : FMem) (ys : List T) (e : Nat) (news : List Value) : Prop where
  len : news.length = ys.length * e
  he : ∀ (i : Nat) (y : T), ys[i]? = some y → y.leaves.length = e
  get : ∀ (i : Nat) (y : T) (j : Nat) (p : T), ys[i]? = some y → y.leaves[j]? = some p → ∃ u, news[i * e + j]? = some u ∧ TR F p u
  one : ∀ u ∈ news, u.oneCell' = true
theorem CellsOf.get1 {F : FMem} {ys : List T} {e : Nat} {news : List Value} (h : CellsOf F ys e news) {i : Nat} {y : T} {j : Nat} {p : T} (hy : ys[i]? = some y) (hp : y.leaves[j]? = some p) : ∃ u, news[i * e + j]? = some u ∧ TR F p u ∧ u.oneCell' = true := by
  obtain ⟨u, h1, h2⟩ := h.get i y j p hy hp
  exact ⟨u, h1, h2, h.one u (List.mem_of_getElem? h1)⟩
theorem CellsOf.append {F : FMem} {xs ys : List T} {e : Nat} {olds news : List Value} (h : CellsOf F xs e olds) (k : CellsOf F ys e news) : CellsOf F (xs ++ ys) e (olds ++ news) := by
  refine ⟨by simp [h.len, k.len, Nat.add_mul], fun i y hy => ?_, fun i y j p hy hp => ?_, fun u hu => ?_⟩
  · rw [List.getElem?_append] at hy
    split at hy
    · exact h.he _ _ hy
    · exact k.he _ _ hy
  · rw [List.getElem?_append] at hy
    split at hy
    · rename_i c
      obtain ⟨u, h1, h2⟩ := h.get i y j p hy hp
      refine ⟨u, ?_, h2⟩
      rw [List.getElem?_append_left (List.getElem?_eq_some_iff.1 h1).1]; exact h1
    · rename_i c
      obtain ⟨u, h1, h2⟩ := k.get _ y j p hy hp
      refine ⟨u, ?_, h2⟩
      have : i * e = (i - xs.length) * e + xs.length * e := by rw [← Nat.add_mul]; congr 1; omega
      rw [List.getElem?_append_right (by rw [h.len, this]; omega), h.len, this]
      rw [show (i - xs.length) * e + xs.length * e + j - xs.length * e = (i - xs.length) * e + j from by omega]
      exact h1
  · rcases List.mem_append.1 hu with hu | hu
    · exact h.one u hu
    · exact k.one u hu
theorem div_lt {j n e : Nat} (h : j < n * e) : j / e < n := Nat.div_lt_of_lt_mul (by rw [Nat.mul_comm]; exact h)
/-- What a row that came in yields. -/
theorem RowAt.cellsOf {F : FMem} {xs : List T} {B o e : Nat} {us : Nat → Nat → Value} (h : RowAt F xs B o e us) {w : World} (hF : FOK F w) :
    CellsOf F xs e ((List.range (xs.length * e)).map fun j => us (j / e) (j % e)) ∧ ∀ (j : Nat) (u : Value), ((List.range (xs.length * e)).map fun j => us (j / e) (j % e))[j]? = some u → w.cell? ⟨B, o + j, none⟩ = some u := by
  have hg : ∀ (j : Nat) (u : Value), ((List.range (xs.length * e)).map fun j => us (j / e) (j % e))[j]? = some u → j < xs.length * e ∧ u = us (j / e) (j % e) ∧ F ⟨B, o + j, none⟩ = some u := by
    intro j u hu
    have hj := (List.getElem?_eq_some_iff.1 hu).1
    simp at hj
    rw [List.getElem?_map, List.getElem?_range hj] at hu
    cases hu
    refine ⟨hj, rfl, ?_⟩
    have he : 0 < e := by
      rcases Nat.eq_zero_or_pos e with h0 | h0
      · simp [h0] at hj
      · exact h0
    have hi := div_lt hj
    have hx := List.getElem?_eq_getElem hi
    have hl := h.he _ _ hx
    have hm : j % e < (xs[j / e]).leaves.length := by rw [hl]; exact Nat.mod_lt _ he
    have := h.hF _ _ (j % e) _ hx (List.getElem?_eq_getElem hm)
    rw [Nat.add_assoc, Nat.mul_comm, Nat.div_add_mod] at this
    exact this
  refine ⟨⟨by simp, h.he, fun i y j p hy hp => ?_, fun u hu => ?_⟩, fun j u hu => ?_⟩
  · have hi := (List.getElem?_eq_some_iff.1 hy).1
    have hj := (List.getElem?_eq_some_iff.1 hp).1
    rw [h.he i y hy] at hj
    have hlt : i * e + j < xs.length * e := by
      have : (i + 1) * e ≤ xs.length * e := Nat.mul_le_mul_right e hi
      rw [Nat.add_mul] at this; omega
    refine ⟨us i j, ?_, h.hu i y j p hy hp⟩
    rw [List.getElem?_map, List.getElem?_range hlt]
    simp only [Option.map_some]
    have h1 : (i * e + j) / e = i := by
      rw [Nat.mul_comm, Nat.mul_add_div (by omega), Nat.div_eq_of_lt hj]; rfl
    have h2 : (i * e + j) % e = j := by
      rw [Nat.mul_comm, Nat.mul_add_mod, Nat.mod_eq_of_lt hj]
    rw [h1, h2]
  · obtain ⟨j, hj⟩ := List.mem_iff_getElem?.1 hu
    obtain ⟨_, _, hf⟩ := hg j u hj
    exact (hF _ _ hf).2
  · exact (hF _ _ (hg j u hu).2.2).1
theorem CellsOf.hb {F : FMem} {φ : Phi} {ys : List T} {e : Nat} {news : List Value} (h : CellsOf F ys e news) {B : Nat} {rest : List Value} {fz : Bool} (hF : ∀ a u, F a = some u → a.block = B → fz = true ∧ a.off < ys.length * e) : HB F φ B (news ++ rest).toArray (.row e ys fz) := by
  refine .row (by simp [h.len]) h.he (fun i y j p hy hp => ?_) hF
  obtain ⟨u, h1, h2, h3⟩ := h.get1 hy hp
  refine ⟨u, ?_, h2, h3⟩
  simp only [List.getElem?_toArray]
  rw [List.getElem?_append_left (List.getElem?_eq_some_iff.1 h1).1]; exact h1
/-- What a row of our own yields. -/
theorem HB.cellsOf {F : FMem} {φ : Phi} {B : Nat} {cs : Array Value} {e : Nat} {xs : List T} {fz : Bool} (h : HB F φ B cs (.row e xs fz)) (k n : Nat) (hk : k + n ≤ xs.length) (hone : ∀ (i : Nat), i < xs.length * e → ∃ u, cs[i]? = some u ∧ u.oneCell' = true) :
    CellsOf F ((xs.drop k).take n) e ((cs.toList.drop (k * e)).take (n * e)) := by
  cases h with
  | row hn he hr hF =>
    have key : ∀ i x, ((xs.drop k).take n)[i]? = some x → i < n ∧ xs[k + i]? = some x := by
      intro i x hx
      rw [List.getElem?_take] at hx
      split at hx
      · rw [List.getElem?_drop] at hx; exact ⟨by omega, hx⟩
      · cases hx
    have hke : (k + n) * e ≤ xs.length * e := Nat.mul_le_mul_right e hk
    rw [Nat.add_mul] at hke
    refine ⟨by simp [List.length_take, List.length_drop]; rw [Nat.min_eq_left (by omega), Nat.min_eq_left (by omega)], fun i x hx => he _ _ (key i x hx).2, fun i x j p hx hp => ?_, fun u hu => ?_⟩
    · obtain ⟨h1, h2⟩ := key i x hx
      obtain ⟨u, hu, ht, _⟩ := hr _ _ _ _ h2 hp
      refine ⟨u, ?_, ht⟩
      have hj := (List.getElem?_eq_some_iff.1 hp).1
      rw [he _ _ h2] at hj
      have : (i + 1) * e ≤ n * e := Nat.mul_le_mul_right e h1
      rw [Nat.add_mul] at this
      rw [List.getElem?_take_of_lt (by omega), List.getElem?_drop]
      rw [Nat.add_mul, Nat.add_assoc] at hu
      simpa using hu
    · obtain ⟨j, hj⟩ := List.mem_iff_getElem?.1 hu
      rw [List.getElem?_take] at hj
      split at hj
      · rename_i hlt
        rw [List.getElem?_drop] at hj
        obtain ⟨u', h1, h2⟩ := hone (k * e + j) (by omega)
        rw [← Array.getElem?_toList, hj] at h1; cases h1; exact h2
      · cases hj
theorem HB.ones {F : FMem} {φ : Phi} {B : Nat} {cs : Array Value} {e : Nat} {xs : List T} {fz : Bool} (h : HB F φ B cs (.row e xs fz)) (i : Nat) (hi : i < xs.length * e) : ∃ u, cs[i]? = some u ∧ u.oneCell' = true := by
  cases h with
  | row hn he hr hF =>
    have he0 : 0 < e := by
      rcases Nat.eq_zero_or_pos e with h0 | h0
      · simp [h0] at hi
      · exact h0
    have hd := div_lt hi
    have hx := List.getElem?_eq_getElem hd
    have hm : i % e < (xs[i / e]).leaves.length := by rw [he _ _ hx]; exact Nat.mod_lt _ he0
    obtain ⟨u, h1, _, h3⟩ := hr _ _ _ _ hx (List.getElem?_eq_getElem hm)
    rw [Nat.mul_comm, Nat.div_add_mod] at h1
    exact ⟨u, h1, h3⟩
end ops
end Go.Proofs.YtaplmmhkpljmkaaDoor.E
