/- The engine's rules: append, literals of lists and structs, slicing, make. -/
import Derived.Test.YtaplmmhkpljmkaaDoorE4
import Derived.Laws.AppendOwn
namespace Go.Proofs.YtaplmmhkpljmkaaDoor.E
set_option linter.unusedVariables false
set_option linter.unusedSimpArgs false
open Go Go.RowKit

variable {P : Program}

theorem growBy_le (n : Nat) : ∀ (r c : Nat), 256 ≤ c → c < n → Builtin.growBy n r c ≤ 2 * n
  | 0, c, _, h => by simp [Builtin.growBy]; omega
  | r + 1, c, h0, h => by
    unfold Builtin.growBy
    rw [if_neg (by omega)]
    by_cases h1 : c + (c + 768) / 4 < n
    · exact growBy_le n r _ (by omega) h1
    · have h2 : c + (c + 768) / 4 ≤ 2 * n := by omega
      cases r with
      | zero => simpa [Builtin.growBy] using h2
      | succ r => unfold Builtin.growBy; rw [if_pos (by omega)]; exact h2
theorem nextcap_le {n c : Nat} (h : c < n) : Builtin.nextslicecap n c ≤ 2 * n := by
  unfold Builtin.nextslicecap
  split
  · omega
  · split
    · omega
    · exact growBy_le n 4 c (by omega) h
theorem zeroCells_size (z : Array Value) (n : Nat) : (Builtin.zeroCells z n).size = n * z.size := by simp [Builtin.zeroCells]

/-- What is appended. -/
def SrcE (P : Program) (s : St) (tx : TypeId) (y : Operand) (e : Nat) (ys : List T) : Prop :=
  ∀ B0 w0 φ0 F0 F φ a w, Sim B0 w0 φ0 F0 s F φ a w → ∃ news, Src P e tx (a.eval y) ys.length news w ∧ CellsOf F ys e news

section
variable {s : St} {tx et : TypeId} {y : Operand} {e sz bytes : Nat} {z : Value}
theorem SrcE.row {n : Bool} {ys : List T} [ht : TyIs P tx (.slice et) sz bytes z] (hy : s.ev y = .t (.sl n ys)) (he : ∀ (i : Nat) (x : T), ys[i]? = some x → x.leaves.length = e) : SrcE P s tx y e ys := by
  intro B0 w0 φ0 F0 F φ a w hs
  have hv := hy ▸ hs.ev y
  generalize hq : a.eval y = q at hv
  cases hv with
  | t h =>
    cases h with
    | nil => exact ⟨[], Src.ofNil w ht.und 0, ⟨by simp, fun i y h => by simp at h, fun i y j p h => by simp at h, fun _ h => by cases h⟩⟩
    | @sl0 a0 c => exact ⟨[], Src.ofSlice w ht.und a0 0 c [] (by simp) (fun j u h => by simp at h) (fun _ h => by cases h), ⟨by simp, fun i y h => by simp at h, fun i y j p h => by simp at h, fun _ h => by cases h⟩⟩
    | @sl _ B o e' c us hc he' hF hu =>
      have hr : RowAt F ys B o e' us := ⟨he', hF, hu⟩
      have : ys = [] ∨ e' = e := by
        cases ys with
        | nil => exact .inl rfl
        | cons x xs => exact .inr ((he' 0 x rfl).symm.trans (he 0 x rfl))
      rcases this with rfl | rfl
      · exact ⟨[], Src.ofSlice w ht.und ⟨B, o, none⟩ 0 c [] (by simp) (fun j u h => by simp at h) (fun _ h => by cases h), ⟨by simp, fun i y h => by simp at h, fun i y j p h => by simp at h, fun _ h => by cases h⟩⟩
      · obtain ⟨h1, h2⟩ := hr.cellsOf hs.fok
        exact ⟨_, Src.ofSlice w ht.und ⟨B, o, none⟩ ys.length c _ h1.len (fun j u h => by rw [Addr.add_mid]; exact h2 j u h) h1.one, h1⟩
theorem SrcE.ref {b off len cap : Nat} {xs ys : List T} {fz : Bool} [ht : TyIs P tx (.slice et) sz bytes z] (hy : s.ev y = .ref b e off len cap) (hb : look b s.heap = some (.row e xs fz)) (hl : off + len ≤ xs.length) (hys : (xs.drop off).take len = ys) : SrcE P s tx y e ys := by
  intro B0 w0 φ0 F0 F φ a w hs
  have hv := hy ▸ hs.ev y
  generalize hq : a.eval y = q at hv
  cases hv with
  | @ref _ _ _ _ _ B sz' c hφ h1 h2 h3 =>
    obtain ⟨B', cs, hlv⟩ := hs.heap b _ hb
    have := hlv.at_; rw [hφ] at this; cases this
    obtain ⟨t', ht'⟩ := hlv.cells
    have hc := hlv.reads.cellsOf off len hl hlv.reads.ones
    rw [hys] at hc
    have hyl : ys.length = len := by subst hys; simp; omega
    refine ⟨_, ?_, hc⟩
    rw [hyl]
    refine Src.ofSlice w ht.und ⟨B, off * e, none⟩ len c _ (by rw [hc.len, hyl]) (fun j u h => ?_) hc.one
    rw [Addr.add_mid, cell_at ht']
    rw [List.getElem?_take] at h
    split at h
    · rw [List.getElem?_drop] at h; simpa using h
    · cases h
theorem SrcE.str {b : ByteArray} [ht : TyIs P tx .string sz bytes z] (hy : s.ev y = .t (.v (.string b))) : SrcE P s tx y 1 (b.data.toList.map fun c => .v (.int .u8 c.toNat)) := by
  intro B0 w0 φ0 F0 F φ a w hs
  have h1 := (evv0 hs hy).1
  refine ⟨byteCells b, ?_, ⟨by simp [byteCells], fun i x hx => ?_, fun i x j p hx hp => ?_, fun u hu => ?_⟩⟩
  · rw [h1]
    have := Src.ofString w ht.und b
    simpa using this
  · simp only [List.getElem?_map, Option.map_eq_some_iff] at hx
    obtain ⟨c, _, rfl⟩ := hx; rfl
  · simp only [List.getElem?_map, Option.map_eq_some_iff] at hx
    obtain ⟨c, hc, rfl⟩ := hx
    simp only [T.leaves] at hp
    cases j with
    | zero => simp at hp; subst hp; exact ⟨_, by simp [byteCells, hc], .v rfl⟩
    | succ j => simp at hp
  · obtain ⟨_, _, rfl⟩ := List.mem_map.1 hu; rfl
end

section ops
variable {d ty : Nat} {pos : String} {af : Array Edge} {g : Option (Nat × Bool)} {K : St → Prop} {s : St}

theorem firstCells_nil (w : World) (e c : Nat) : (Builtin.firstCells e 0 (.slice none 0 c)).run P w = .ok #[] w := rfl

/-- A new row. -/
theorem Sim.row {B0 : Nat} {w0 : World} {φ0 : Phi} {F0 : FMem} {F : FMem} {φ : Phi} {a : Act} {w : World} (h : Sim B0 w0 φ0 F0 s F φ a w) {ys : List T} {e : Nat} {news rest : List Value} {t : TypeId} {fz : Bool} (hc : CellsOf F ys e news) :
    φ.le (φ.new s.n (w.heap.size, (news ++ rest).toArray.size)) ∧ Sim B0 w0 φ0 F0 (s.alloc (.row e ys fz)) F (φ.new s.n (w.heap.size, (news ++ rest).toArray.size)) a (w.alloc (.cells (news ++ rest).toArray t)) :=
  h.alloc (hc.hb fun _ _ e1 e2 => absurd e2 (Nat.ne_of_lt (h.fok.lt e1)))

/-- append to nil. -/
theorem TriO.appNil {t tx et : TypeId} {x y : Operand} {ys : List T} {sz bytes e ebytes : Nat} {z ez : Value} {ed : TypeDesc} [ht : TyIs P t (.slice et) sz bytes z] [he : TyIs P et ed e ebytes ez]
    (hx : s.ev x = .t (.sl true [])) (hsrc : SrcE P s tx y e ys) (h0 : 0 < ys.length) (hm : ys.length * ebytes ≤ 70368744177664) (hm2 : ys.length ≤ 4611686018427387904) (hN : Nat.blt d s.N = true)
    (hK : K ((s.alloc (.row e ys false)).put d (.ref s.n e 0 ys.length ys.length))) : TriO P ⟨some d, .call ⟨.builtin .append, #[x, y], #[t, tx]⟩, ty, pos, af, g⟩ K s := by
  refine .gen rfl hN (fun B0 w0 φ0 F0 F φ a w hs => ?_)
  obtain ⟨news, h1, h2⟩ := hsrc B0 w0 φ0 F0 F φ a w hs
  obtain ⟨i, i1, i2, i3, i4⟩ := he.inf
  have hv := hx ▸ hs.ev x
  generalize hq : a.eval x = q at hv
  cases hv with
  | t h =>
    cases h with
    | nil =>
      have hcap := nextcap_le (n := 0 + ys.length) (c := 0) (by omega)
      have hrun := run_append_grow_src (P := P) w t tx ty et i ez ht.und i1 i2 none 0 0 [] rfl (a.eval y) ys.length news (i3 ▸ h1) (by omega) (by omega)
        (by rw [i4]; have := Nat.mul_le_mul_right ebytes hcap; have e3 : 2 * (0 + ys.length) * ebytes = 2 * (ys.length * ebytes) := by rw [Nat.zero_add, Nat.mul_assoc]
            omega)
      simp only [Nat.zero_add, List.nil_append] at hrun
      obtain ⟨hle, hs'⟩ := (hs.drew).row (rest := (Builtin.zeroCells ez.cells (grownCap w ys.length 0 et - ys.length)).toList) (t := et) (fz := false) h2
      have hge := grownCap_ge w ys.length 0 et
      refine ⟨.slice (some ⟨w.heap.size, 0, none⟩) ys.length (grownCap w ys.length 0 et), _, s.alloc (.row e ys false), F, _, .ref s.n e 0 ys.length ys.length, ?_, rfl, rfl, hs', ?_, hK⟩
      · simp only [execOp, resolve, invoke, builtin, List.map_toArray, List.map_cons, List.map_nil, hq, Sem.run_bind, Sem.run_pure, Result.andThen_ok, hrun]
        congr 3
        apply Array.ext'; simp
      · have hz : (news ++ (Builtin.zeroCells ez.cells (grownCap w ys.length 0 et - ys.length)).toList).toArray.size = grownCap w ys.length 0 et * e := by
          simp [h2.len, zeroCells_size, he.zsz]
          rw [← Nat.add_mul]; congr 1; omega
        have := VR.ref (F := F) (φ := φ.new s.n (w.drew.heap.size, _)) (b := s.n) (e := e) (off := 0) (len := ys.length) (cap := ys.length) (B := w.heap.size) (sz := grownCap w ys.length 0 et * e) (c := grownCap w ys.length 0 et)
          (by rw [← hz]; exact if_pos rfl) (Nat.le_refl _) hge (by omega)
        simpa using this
/-- append of nothing to nil. -/
theorem PO.appNil0 {t tx et : TypeId} {x y : Operand} {sz bytes e ebytes : Nat} {z ez : Value} {ed : TypeDesc} [ht : TyIs P t (.slice et) sz bytes z] [he : TyIs P et ed e ebytes ez]
    (hx : s.ev x = .t (.sl true [])) (hsrc : SrcE P s tx y e []) : PO P True ⟨some d, .call ⟨.builtin .append, #[x, y], #[t, tx]⟩, ty, pos, af, g⟩ s (.t (.sl true [])) := by
  intro _ B0 w0 φ0 F0 F φ a w hs
  obtain ⟨news, h1, h2⟩ := hsrc B0 w0 φ0 F0 F φ a w hs
  obtain ⟨i, i1, i2, i3, i4⟩ := he.inf
  have hv := hx ▸ hs.ev x
  generalize hq : a.eval x = q at hv
  cases hv with
  | t h =>
    cases h with
    | nil =>
      refine ⟨.slice none 0 0, ?_, .t .nil⟩
      simp only [execOp, resolve, invoke, builtin, List.map_toArray, List.map_cons, List.map_nil, hq, Sem.run_bind, Sem.run_pure, Result.andThen_ok]
      have h3 := h1.len w
      have h4 : (Builtin.firstCells e 0 (a.eval y)).run P w = .ok news.toArray w := h1.cells
      have h5 : (Builtin.lenOf (a.eval y)).run P w = .ok 0 w := h3
      rcases h1.kind with ⟨e', hk⟩ | hk <;> simp [Builtin.append_, ht.under, run_underlying hk, he.sizeOf, h5, h4]
/-- append to a row of our own. -/
theorem TriO.appOwn {t tx et : TypeId} {x y : Operand} {b len cap : Nat} {xs ys : List T} {fz : Bool} {sz bytes e ebytes : Nat} {z ez : Value} {ed : TypeDesc} [ht : TyIs P t (.slice et) sz bytes z] [he : TyIs P et ed e ebytes ez]
    (hx : s.ev x = .ref b e 0 len cap) (hb : look b s.heap = some (.row e xs fz)) (hcap : cap = xs.length) (hfz : fz = true → len = xs.length) (hsrc : SrcE P s tx y e ys)
    (hm : (len + ys.length) * ebytes ≤ 70368744177664) (hm2 : len + ys.length ≤ 4611686018427387904) (hN : Nat.blt d s.N = true)
    (hK : K (St.put { s with heap := (s.n, .row e (xs.take len ++ ys) fz) :: wipe b s.heap, n := s.n + 1 } d (.ref s.n e 0 (len + ys.length) (len + ys.length)))) : TriO P ⟨some d, .call ⟨.builtin .append, #[x, y], #[t, tx]⟩, ty, pos, af, g⟩ K s := by
  refine .gen rfl hN (fun B0 w0 φ0 F0 F φ a w hs => ?_)
  obtain ⟨news, h1, h2⟩ := hsrc B0 w0 φ0 F0 F φ a w hs
  obtain ⟨i, i1, i2, i3, i4⟩ := he.inf
  have hv := hx ▸ hs.ev x
  generalize hq : a.eval x = q at hv
  have hxb : b < s.n := by
    rcases Nat.lt_or_ge b s.n with h | h
    · exact h
    · obtain ⟨B', cs', hl'⟩ := hs.heap b _ hb
      have := hs.fresh b h; rw [hl'.at_] at this; cases this
  cases hv with
  | @ref _ _ _ _ _ B sz' c hφ k1 k2 k3 =>
    obtain ⟨B', cs, hlv⟩ := hs.heap b _ hb
    have := hlv.at_; rw [hφ] at this; cases this
    obtain ⟨t', ht'⟩ := hlv.cells
    have hlen : len ≤ xs.length := by omega
    have hold := hlv.reads.cellsOf 0 len (by omega) hlv.reads.ones
    simp only [Nat.zero_mul, List.drop_zero] at hold
    have hcat := hold.append h2
    have htl : (xs.take len).length = len := by simp; omega
    have hkeep : ∀ b2 k2, look b2 ((s.n, Blk.row e (xs.take len ++ ys) fz) :: wipe b s.heap) = some k2 → (b2 = s.n ∧ k2 = .row e (xs.take len ++ ys) fz) ∨ (b2 ≠ s.n ∧ b2 ≠ b ∧ look b2 s.heap = some k2) := by
      intro b2 k2 h
      simp only [look] at h
      split at h
      · cases h; exact .inl ⟨‹_›, rfl⟩
      · rw [look_wipe] at h
        split at h
        · cases h
        · exact .inr ⟨‹_›, ‹_›, h⟩
    by_cases hroom : len + ys.length ≤ c
    · -- in place
      have hne : (len + ys.length) * e ≤ cs.size := by
        have := Nat.mul_le_mul_right e hroom; omega
      rw [Nat.add_mul] at hne
      have hrun := run_append_room_src (P := P) w t tx ty et i ht.und i1 B 0 len c (a.eval y) ys.length news (i3 ▸ h1) hroom
        (fun j hj => by rw [i3, Nat.zero_add, cell_at ht', Array.getElem?_eq_getElem (by rw [h2.len] at hj; omega)]; rfl)
        (fun j hj => by simp [World.frozen?, ht'])
      have hset : w.setCells B (len * e) news = w.setRow B (cs.toList.take (len * e) ++ news ++ cs.toList.drop (len * e + news.length)).toArray := by
        have r1 := run_storeCells_at (P := P) B (len * e) t' news 0 cs w ht' (by rw [h2.len]; omega) h2.one
        have r2 := run_storeCells_cells (P := P) B (len * e) news 0 w (fun j hj => by rw [Nat.add_zero, cell_at ht', Array.getElem?_eq_getElem (by rw [h2.len] at hj; omega)]; rfl) (fun j hj => by simp [World.frozen?, ht']) h2.one
        simp only [Nat.add_zero] at r1 r2
        rw [r1] at r2
        injection r2 with _ r3
        exact r3.symm
      rw [i3, Nat.zero_add, hset] at hrun
      generalize hcs' : (cs.toList.take (len * e) ++ news ++ cs.toList.drop (len * e + news.length)).toArray = cs' at hrun
      have hsz' : cs'.size = cs.size := by
        subst hcs'; have := splice_len (l := cs.toList) (vs := news) (o := len * e) (by simp [h2.len]; omega)
        simp only [List.size_toArray]; rw [this]; simp
      have hHB : HB F φ B cs' (.row e (xs.take len ++ ys) fz) := by
        rw [← hcs']
        refine hcat.hb (fun x u e1 e2 => ?_)
        cases hlv.reads with
        | row hn he' hr hF =>
          obtain ⟨f1, f2⟩ := hF x u e1 e2
          refine ⟨f1, ?_⟩
          have := hfz f1
          simp only [List.length_append, htl, Nat.add_mul]
          rw [this]; omega
      have hupd := hs.upd hb hlv hsz' hHB (fun x u e1 e2 => by
        cases hlv.reads with
        | row hn he' hr hF =>
          obtain ⟨f1, f2⟩ := hF x u e1 e2
          have f3 := hfz f1
          subst hcs'
          simp only [List.getElem?_toArray]
          rw [splice_get (by simp [h2.len]; omega), if_pos (by rw [f3]; exact f2)]; simp)
      -- the block's new number
      have hφn : φ s.n = none := hs.fresh _ (Nat.le_refl _)
      have hle : φ.le (φ.new s.n (B, cs.size)) := Phi.le_new hφn
      have hs' : Sim B0 w0 φ0 F0 { s with heap := (s.n, .row e (xs.take len ++ ys) fz) :: wipe b s.heap, n := s.n + 1 } F (φ.new s.n (B, cs.size)) a (w.setRow B cs') := by
        refine ⟨hupd.below, hupd.base, hupd.fok, hupd.fle, hupd.fnew, fun b2 hb2 => ?_, Nat.le_succ_of_le hs.lo, fun b2 hb2 => ?_, hs.size, hs.defers, fun i p hp => (hs.tm i p hp).mono (FMem.le_refl F) hle, fun b2 k2 hk2 => ?_, fun b1 b2 k1 k2 B2 s1 s2 g1 g2 g3 g4 => ?_⟩
        · have := hs.lo; simp only at hb2
          rw [Phi.new, if_neg (by omega)]; exact hs.phi0 b2 hb2
        · simp only at hb2
          rw [Phi.new, if_neg (by omega)]; exact hs.fresh b2 (by omega)
        · rcases hkeep b2 k2 hk2 with ⟨rfl, rfl⟩ | ⟨n1, n2, n3⟩
          · exact ⟨B, cs', by rw [hsz']; exact if_pos rfl, hlv.old, ⟨t', setRow_heap w B cs cs' t' (0, 0) ht'⟩, hHB.mono hle⟩
          · obtain ⟨B2, cs2, hl2⟩ := hupd.heap b2 k2 (by simp only [St.upd, look]; rw [if_neg n2]; exact n3)
            exact ⟨B2, cs2, hle _ _ hl2.at_, hl2.old, hl2.cells, hl2.reads.mono hle⟩
        · rcases hkeep b1 k1 g1 with ⟨rfl, rfl⟩ | ⟨n1, n2, n3⟩ <;> rcases hkeep b2 k2 g2 with ⟨e2, e3⟩ | ⟨m1, m2, m3⟩
          · exact e2.symm
          · rw [Phi.new, if_pos rfl] at g3; rw [Phi.new, if_neg m1] at g4
            cases g3
            exact absurd (hs.inj b b2 _ k2 B _ _ hb m3 hφ g4) (Ne.symm m2)
          · subst e2; rw [Phi.new, if_pos rfl] at g4; rw [Phi.new, if_neg n1] at g3
            cases g4
            exact absurd (hs.inj b1 b k1 _ B _ _ n3 hb g3 hφ) n2
          · rw [Phi.new, if_neg n1] at g3; rw [Phi.new, if_neg m1] at g4
            exact hs.inj b1 b2 k1 k2 B2 s1 s2 n3 m3 g3 g4
      refine ⟨.slice (some ⟨B, 0, none⟩) (len + ys.length) c, _, { s with heap := (s.n, .row e (xs.take len ++ ys) fz) :: wipe b s.heap, n := s.n + 1 }, F, _, .ref s.n e 0 (len + ys.length) (len + ys.length), ?_, rfl, rfl, hs', ?_, hK⟩
      · simp only [execOp, resolve, invoke, builtin, List.map_toArray, List.map_cons, List.map_nil, hq, Nat.zero_mul, Sem.run_bind, Sem.run_pure, Result.andThen_ok, hrun]
      · have := VR.ref (F := F) (φ := φ.new s.n (B, cs.size)) (b := s.n) (e := e) (off := 0) (len := len + ys.length) (cap := len + ys.length) (B := B) (sz := cs.size) (c := c) (if_pos rfl) (Nat.le_refl _) hroom (by simpa using k3)
        simpa using this
    · -- a new row
      have hcn : c < len + ys.length := by omega
      have hcap2 := nextcap_le hcn
      have hfirst : (Builtin.firstCells e len (.slice (some ⟨B, 0, none⟩) len c)).run P w.drew = .ok ((cs.toList.take (len * e))).toArray w.drew := by
        refine run_firstCells_some w.drew e len ⟨B, 0, none⟩ len c _ (by rw [hold.len, htl]) (fun j u hj => ?_)
        rw [Addr.add_mid, Nat.zero_add]
        rw [List.getElem?_take] at hj
        split at hj
        · rw [show w.drew.cell? ⟨B, j, none⟩ = w.cell? ⟨B, j, none⟩ from rfl, cell_at ht']; simpa using hj
        · cases hj
      have hrun := run_append_grow_src (P := P) w t tx ty et i ez ht.und i1 i2 (some ⟨B, 0, none⟩) len c _ (i3 ▸ hfirst) (a.eval y) ys.length news (i3 ▸ h1) hcn (by omega)
        (by rw [i4]; have := Nat.mul_le_mul_right ebytes hcap2; have e3 : 2 * (len + ys.length) * ebytes = 2 * ((len + ys.length) * ebytes) := by rw [Nat.mul_assoc]
            omega)
      obtain ⟨hle, hs1⟩ := (hs.drew).row (rest := (Builtin.zeroCells ez.cells (grownCap w (len + ys.length) c et - (len + ys.length))).toList) (t := et) (fz := fz) hcat
      have hge := grownCap_ge w (len + ys.length) c et
      have hs' := hs1.forget (l := (s.n, .row e (xs.take len ++ ys) fz) :: wipe b s.heap) (fun b2 k2 hk2 => by
        rcases hkeep b2 k2 hk2 with ⟨rfl, rfl⟩ | ⟨n1, n2, n3⟩
        · simp [St.alloc, look]
        · simp only [St.alloc, look]; rw [if_neg n1]; exact n3)
      refine ⟨.slice (some ⟨w.heap.size, 0, none⟩) (len + ys.length) (grownCap w (len + ys.length) c et), _, { s with heap := (s.n, .row e (xs.take len ++ ys) fz) :: wipe b s.heap, n := s.n + 1 }, F, _, .ref s.n e 0 (len + ys.length) (len + ys.length), ?_, rfl, rfl, hs', ?_, hK⟩
      · simp only [execOp, resolve, invoke, builtin, List.map_toArray, List.map_cons, List.map_nil, hq, Nat.zero_mul, Sem.run_bind, Sem.run_pure, Result.andThen_ok, hrun]
        congr 3
        apply Array.ext'; simp [i3]
      · have hz : ((cs.toList.take (len * e) ++ news) ++ (Builtin.zeroCells ez.cells (grownCap w (len + ys.length) c et - (len + ys.length))).toList).toArray.size = grownCap w (len + ys.length) c et * e := by
          have := hcat.len
          simp only [List.size_toArray, List.length_append, Array.length_toList, zeroCells_size, he.zsz] at this ⊢
          rw [this, htl, ← Nat.add_mul]; congr 1; omega
        have := VR.ref (F := F) (φ := φ.new s.n (w.drew.heap.size, _)) (b := s.n) (e := e) (off := 0) (len := len + ys.length) (cap := len + ys.length) (B := w.heap.size) (sz := grownCap w (len + ys.length) c et * e) (c := grownCap w (len + ys.length) c et)
          (by rw [← hz]; exact if_pos rfl) (Nat.le_refl _) hge (by omega)
        simpa using this
end ops
end Go.Proofs.YtaplmmhkpljmkaaDoor.E
