/- Results that are several: two values; a struct in a cell and a value. -/
import Derived.Test.YtmhbibfkhbaclaaGreatDoorK15
namespace Go.Proofs.YtmhbibfkhbaclaaGreatDoor.E
open Go Go.RowKit
set_option linter.unusedVariables false
set_option linter.unusedSimpArgs false
section
variable {P : Program}
/-- Two values are the result. -/
def Comes2 (t u : Tmp) (x y : T) (e : Ex) (s : St) : Prop := (e = .normal ∨ e = .ret) ∧ Rets s [s.ev (.tmp t), s.ev (.tmp u)] [.t x, .t y]
theorem Comes2.trees {t u : Tmp} {x y : T} {e : Ex} {s : St} (he : e = .normal ∨ e = .ret) (h1 : (s.ev (.tmp t)).toT = some x) (h2 : (s.ev (.tmp u)).toT = some y) : Comes2 t u x y e s := ⟨he, .tree h1 (.tree h2 .nil)⟩
theorem results_two {fn : Func} {t u : Tmp} (h : fn.results = #[.tmp t, .tmp u]) (tmps : Array Value) (w : World) : (results fn tmps).run P w = .ok (.tuple #[tmps.getD t undef, tmps.getD u undef]) w := by
  simp [results, h]
theorem Pure.of2 {f : FuncId} {fn : Func} {c : Code} {args : List T} {t u : Tmp} {x y : T} {N : Nat} (hf : P.funcs[f]? = some fn) (hb : fn.body = some c) (hN : fn.ntmps = N) (hle : args.length ≤ N) (hr : fn.results = #[.tmp t, .tmp u])
    (h : Tri P c (Comes2 t u x y) ⟨initTm 0 args, N, [], 0, 0⟩) : Pure P f args (.tup [.t x, .t y]) := by
  intro F vs w hF hn hv
  refine calls_of_wp hf hb ?_
  rw [hN]
  have hs := sim_init (N := N) hF hn hv (by omega)
  refine wp_mono (h _ _ _ _ _ _ _ _ hs) ?_
  rintro e a' w' ⟨ex, s', F', φ', rfl, ⟨hx, hq⟩, h1, h2, hs'⟩
  obtain ⟨G, bs, g1, g2, g3, g4, g5, g6, g7⟩ := hq.rr F' [a'.tmps.getD t undef, a'.tmps.getD u undef] hs' rfl (fun i p v hp hv => by
    match i, hp, hv with
    | 0, hp, hv => cases hp; cases hv; exact hs'.ev (.tmp t)
    | 1, hp, hv => cases hp; cases hv; exact hs'.ev (.tmp u)
    | i + 2, hp, hv => simp at hp)
  have hpost : bodyPost P fn (fun e w' => ∃ rv F', e = .returned rv ∧ F.le F' ∧ FOK F' w' ∧ (∀ a, F' a ≠ F a → w.heap.size ≤ a.block) ∧ Below w.heap.size w w' ∧ RR F' w.heap.size w' (.tup [.t x, .t y]) rv) .normal a' w' := by
    refine bodyPost_end (results_two hr _ _) hs'.defers ⟨_, G, rfl, FMem.le_trans hs'.fle g1, g2, fun x hx => ?_, hs'.below.below, .tup (fun _ => none) rfl (fun i r v hr hv => ?_) (fun i j b _ h => by cases h) (fun i b h => by cases h)⟩
    · by_cases e1 : G x = F' x
      · exact Nat.le_of_not_lt (hs'.fnew x (fun e2 => hx (e1.trans e2)))
      · obtain ⟨b, k, sz, q1, q2⟩ := g3 x e1
        obtain ⟨B, cs, hl⟩ := hs'.heap b k q1
        have := hl.at_; rw [q2] at this; cases this
        exact Nat.le_of_not_lt hl.old
    · have h5 := g5 i r v hr (by simpa using hv)
      generalize bs i = bb at h5
      match i, hr with
      | 0, hr => cases hr; cases h5 with | t h => exact .t h
      | 1, hr => cases hr; cases h5 with | t h => exact .t h
      | i + 2, hr => simp at hr
  rcases hx with rfl | rfl
  · exact hpost
  · exact hpost
/-- A struct's variable and a value are the result. -/
def ComesCT (t u : Tmp) (sz : Nat) (x y : T) (e : Ex) (s : St) : Prop :=
  (e = .normal ∨ e = .ret) ∧ ∃ b ls xs, s.ev (.tmp t) = .ptr b 0 ∧ look b s.heap = some (.obj ls) ∧ ls.length = sz ∧ x = .agg xs ∧ Rets s (s.ev (.tmp u) :: ls) (.t y :: xs.map .t)
theorem results_ct {fn : Func} {t u : Tmp} {ty : TypeId} (h : fn.results = #[.cell t ty, .tmp u]) {tmps : Array Value} {w : World} {B o : Nat} {v : Value} (ht : tmps.getD t undef = .pointer (some ⟨B, o, none⟩)) (hl : (loadVar ty ⟨B, o, none⟩).run P w = .ok v w) :
    (results fn tmps).run P w = .ok (.tuple #[v, tmps.getD u undef]) w := by
  have ht' : tmps[t]?.getD undef = .pointer (some ⟨B, o, none⟩) := by rw [← Array.getD_eq_getD_getElem?]; exact ht
  simp [results, h, ht', asAddr, hl]
theorem Pure.ofCT {f : FuncId} {fn : Func} {c : Code} {args : List T} {t u : Tmp} {rt : TypeId} {r y : T} {N sz bytes : Nat} {ds : TypeDesc} {z : Value} [ht : TyIs P rt ds sz bytes z] (hd : aggD ds = true) (hf : P.funcs[f]? = some fn) (hb : fn.body = some c) (hN : fn.ntmps = N) (hle : args.length ≤ N) (hr : fn.results = #[.cell t rt, .tmp u])
    (h : Tri P c (ComesCT t u sz r y) ⟨initTm 0 args, N, [], 0, 0⟩) : Pure P f args (.tup [.t r, .t y]) := by
  intro F vs w hF hn hv
  refine calls_of_wp hf hb ?_
  rw [hN]
  have hs := sim_init (N := N) hF hn hv (by omega)
  refine wp_mono (h _ _ _ _ _ _ _ _ hs) ?_
  rintro e a' w' ⟨x, s', F', φ', rfl, ⟨hx, b, ls, xs, q1, q2, q3, rfl, hq⟩, h1, h2, hs'⟩
  have hp := hs'.ev (.tmp t)
  rw [q1] at hp
  obtain ⟨B, cs, hlv⟩ := hs'.heap b _ q2
  obtain ⟨t', ht'⟩ := hlv.cells rfl
  generalize hpt : a'.eval (.tmp t) = pv at hp
  cases hp with
  | ptr hφ =>
    have := hlv.at_; rw [hφ] at this; cases this
    cases hlv.reads with
    | obj hn' hrd hF' =>
      have hlen : (cs.toList.take sz).length = sz := by simp; omega
      have hcell : ∀ (i : Nat) (u : Value), (cs.toList.take sz)[i]? = some u → cs[i]? = some u := by
        intro i u hu
        rw [List.getElem?_take] at hu
        split at hu
        · simpa using hu
        · cases hu
      obtain ⟨G, bs, g1, g2, g3, g4, g5, g6, g7⟩ := hq.rr F' (a'.tmps.getD u undef :: cs.toList.take sz) hs' (by simp; omega) (fun i p v hp hv => by
        cases i with
        | zero => cases hp; cases hv; exact hs'.ev (.tmp u)
        | succ i =>
          have hp' : ls[i]? = some p := by simpa using hp
          have hv' : (cs.toList.take sz)[i]? = some v := by simpa using hv
          obtain ⟨u, hu, hvr⟩ := hrd i p hp'
          rw [hcell i v hv'] at hu; cases hu; exact hvr)
      have hload : (loadVar rt ⟨B, 0, none⟩).run P w' = .ok (.agg (cs.toList.take sz).toArray) w' := by
        have hm := loadAt_many (P := P) ht hd (w := w') (B := B) (o := 0) (cs := cs.toList.take sz) hlen (fun j u hu => by rw [Nat.zero_add, cell_at ht']; exact hcell j u hu)
        simpa [Instr.loadAt, Instr.sureAddr] using hm
      have hpost : bodyPost P fn (fun e w' => ∃ rv F', e = .returned rv ∧ F.le F' ∧ FOK F' w' ∧ (∀ a, F' a ≠ F a → w.heap.size ≤ a.block) ∧ Below w.heap.size w w' ∧ RR F' w.heap.size w' (.tup [.t (.agg xs), .t y]) rv) .normal a' w' := by
        refine bodyPost_end (results_ct hr hpt hload) hs'.defers ⟨_, G, rfl, FMem.le_trans hs'.fle g1, g2, fun x hx => ?_, hs'.below.below, .tup (fun _ => none) rfl (fun i r v hr hv => ?_) (fun i j b _ h => by cases h) (fun i b h => by cases h)⟩
        · by_cases e1 : G x = F' x
          · exact Nat.le_of_not_lt (hs'.fnew x (fun e2 => hx (e1.trans e2)))
          · obtain ⟨b, k, sz, q1, q2⟩ := g3 x e1
            obtain ⟨B, cs, hl⟩ := hs'.heap b k q1
            have := hl.at_; rw [q2] at this; cases this
            exact Nat.le_of_not_lt hl.old
        · match i, hr, hv with
          | 0, hr, hv =>
            cases hr; cases hv
            refine .t (.agg ?_ ?_)
            · simpa using g4
            · intro i y u hy hu
              have := g5 (i + 1) (.t y) u (by simp [hy]) (by simpa using hu)
              generalize hbs : bs (i + 1) = bb at this
              cases this with | t h => exact h
          | 1, hr, hv =>
            cases hr; cases hv
            have := g5 0 (.t y) _ rfl rfl
            generalize hbs : bs 0 = bb at this
            cases this with | t h => exact .t h
          | i + 2, hr, hv => simp at hr
      rcases hx with rfl | rfl
      · exact hpost
      · exact hpost
theorem ComesCT.trees {t u : Tmp} {sz : Nat} {xs : List T} {y : T} {e : Ex} {s : St} {b : Nat} {ls : List PV} (he : e = .normal ∨ e = .ret) (h1 : s.ev (.tmp t) = .ptr b 0) (h2 : look b s.heap = some (.obj ls)) (h3 : ls.length = sz) (h4 : (s.ev (.tmp u)).toT = some y) (h5 : Rets s ls (xs.map .t)) : ComesCT t u sz (.agg xs) y e s :=
  ⟨he, b, ls, xs, h1, h2, h3, rfl, .tree h4 h5⟩
variable {d ty : Nat} {pos : String} {af : Array Edge} {K : St → Prop} {ops : Array Oper} {l_ : List Oper} {tm_ : List (Nat × PV)} {N_ lo_ n_ : Nat} {hp_ : List (Nat × Blk)} {x : Operand} {f : FuncId} {ts : Array TypeId}
theorem U.callP2 {y z : Operand} {u v r1 r2 : T} [hf : FnIs P f] (hx : evt tm_ x = .t (.v (.func (.func f) #[] #[]))) (hy : (evt tm_ y).toT = some u) (hz : (evt tm_ z).toT = some v) (hr : Pure P f [u, v] (.tup [.t r1, .t r2])) (hN : Nat.blt d N_ = true)
    (hK : TriL P ops l_ K ⟨(d, .tup [.t r1, .t r2]) :: tm_, N_, hp_, lo_, n_⟩) : TriL P ops (⟨some d, .call ⟨.value x, #[y, z], ts⟩, ty, pos, af, none⟩ :: l_) K ⟨tm_, N_, hp_, lo_, n_⟩ :=
  .cons rfl (.call (xs := [y, z]) (s1 := ⟨tm_, N_, hp_, lo_, n_⟩) hx rfl (.tree hy (.tree hz .nil)) hr hN hK)
end
end Go.Proofs.YtmhbibfkhbaclaaGreatDoor.E

/- The engine: regions whose order is free, each operation by what it touches. -/
namespace Go.Proofs.YtmhbibfkhbaclaaGreatDoor.E
open Go Go.RowKit
set_option linter.unusedVariables false
set_option linter.unusedSimpArgs false
variable {P : Program}

mutual
theorem PV.lt_mono {m n : Nat} (h : m ≤ n) : ∀ p : PV, PV.lt m p = true → PV.lt n p = true
  | .undef, _ => rfl
  | .t _, _ => rfl
  | .ref b _ _ _ _, k => by simp only [PV.lt, Nat.blt_eq] at k ⊢; omega
  | .ptr b _, k => by simp only [PV.lt, Nat.blt_eq] at k ⊢; omega
  | .rptr b _ _ _, k => by simp only [PV.lt, Nat.blt_eq] at k ⊢; omega
  | .eptr _ _, _ => rfl
  | .clip _, _ => rfl
  | .agg ps, k => by simp only [PV.lt] at k ⊢; exact PV.lts_mono h ps k
  | .tup ps, k => by simp only [PV.lt] at k ⊢; exact PV.lts_mono h ps k
  | .fn _ fs ps, k => by
    simp only [PV.lt, Bool.and_eq_true] at k ⊢
    exact ⟨PV.lts_mono h fs k.1, PV.lts_mono h ps k.2⟩
  | .mp b, k => by simp only [PV.lt, Nat.blt_eq] at k ⊢; omega
  | .yl b, k => by simp only [PV.lt, Nat.blt_eq] at k ⊢; omega
  | .ifc _ p, k => by simp only [PV.lt] at k ⊢; exact PV.lt_mono h p k
  | .cond _ _ p, k => by
    simp only [PV.lt, Bool.or_eq_true] at k ⊢
    exact k.imp (PV.lt_mono h p) id
theorem PV.lts_mono {m n : Nat} (h : m ≤ n) : ∀ ps : List PV, PV.lts m ps = true → PV.lts n ps = true
  | [], _ => rfl
  | p :: ps, k => by
    simp only [PV.lts, Bool.and_eq_true] at k ⊢
    exact ⟨PV.lt_mono h p k.1, PV.lts_mono h ps k.2⟩
end
theorem Blk.lt_mono {m n : Nat} (h : m ≤ n) : ∀ k : Blk, Blk.lt m k = true → Blk.lt n k = true
  | .obj ps _, k => PV.lts_mono h ps k
  | .row .., _ => rfl
  | .map _, k => PV.lts_mono h _ k
/-- The blocks with some numbers; the others. -/
def part (ks : List Nat) : List (Nat × Blk) → List (Nat × Blk)
  | [] => []
  | x :: l => bif ks.contains x.1 then x :: part ks l else part ks l
def rest (ks : List Nat) : List (Nat × Blk) → List (Nat × Blk)
  | [] => []
  | x :: l => bif ks.contains x.1 then rest ks l else x :: rest ks l
theorem look_part (ks : List Nat) (b : Nat) : ∀ l : List (Nat × Blk), look b (part ks l) = if ks.contains b = true then look b l else none
  | [] => by simp [part, look]
  | (j, k) :: l => by
    have ih := look_part ks b l
    simp only [part]
    cases hc : ks.contains j with
    | true =>
      simp only [cond_true, look]
      by_cases e : b = j
      · subst e; simp only [hc, if_true]
      · rw [if_neg e, if_neg e, ih]
    | false =>
      simp only [cond_false, look, ih]
      by_cases e : b = j
      · subst e; rw [hc]; simp
      · rw [if_neg e]
theorem look_rest (ks : List Nat) (b : Nat) : ∀ l : List (Nat × Blk), look b (rest ks l) = if ks.contains b = true then none else look b l
  | [] => by simp [rest, look]
  | (j, k) :: l => by
    have ih := look_rest ks b l
    simp only [rest]
    cases hc : ks.contains j with
    | true =>
      simp only [cond_true, look, ih]
      by_cases e : b = j
      · subst e; simp only [hc, if_true]
      · rw [if_neg e]
    | false =>
      simp only [cond_false, look, ih]
      by_cases e : b = j
      · subst e; rw [hc]; simp
      · rw [if_neg e, if_neg e]
theorem look_append {α : Type} (b : Nat) : ∀ l m : List (Nat × α), look b (l ++ m) = (look b l).or (look b m)
  | [], m => by simp [look]
  | (j, k) :: l, m => by
    simp only [List.cons_append, look]
    split
    · simp
    · exact look_append b l m

/-- What one operation gives, reads ('neg': all but these), writes, and leaves. -/
structure XE where
  q : PV
  neg : Bool
  rd : List Nat
  w : List Nat
  out : List (Nat × Blk)
  n' : Nat
def XE.acc (e : XE) (b : Nat) : Bool := (bif e.neg then !e.rd.contains b else e.rd.contains b) || e.w.contains b
def XE.part (e : XE) : List (Nat × Blk) → List (Nat × Blk)
  | [] => []
  | x :: l => bif e.acc x.1 then x :: e.part l else e.part l
theorem XE.look_part (e : XE) (b : Nat) : ∀ l : List (Nat × Blk), look b (e.part l) = if e.acc b = true then look b l else none
  | [] => by simp [XE.part, look]
  | (j, k) :: l => by
    have ih := XE.look_part e b l
    simp only [XE.part]
    cases hc : e.acc j with
    | true =>
      simp only [cond_true, look]
      by_cases q : b = j
      · subst q; simp only [hc, if_true]
      · rw [if_neg q, if_neg q, ih]
    | false =>
      simp only [cond_false, look, ih]
      by_cases q : b = j
      · subst q; rw [hc]; simp
      · rw [if_neg q]
def XE.hp (e : XE) (hp : List (Nat × Blk)) : List (Nat × Blk) := e.out ++ rest e.w hp
def OneX (P : Program) (ops : Array Oper) (o : Oper) (e : XE) (tm : List (Nat × PV)) (N : Nat) (hp : List (Nat × Blk)) (n : Nat) : Prop :=
  TriL P ops [o] (fun s' => (∀ d, o.dst = some d → look d s'.tm = some e.q) ∧ (∀ b k, look b e.out = some k → look b s'.heap = some k) ∧ (∀ b k, e.acc b = true → e.w.contains b = false → look b hp = some k → look b s'.heap = some k) ∧ s'.n ≤ e.n') ⟨sel ops o tm, N, e.part hp, n, n⟩
/-- Is a number written by an operation? -/
def XE.has (e : XE) (n b : Nat) : Bool := e.w.contains b || (Nat.ble n b && Nat.blt b e.n')
def XE.Has (e : XE) (n b : Nat) : Prop := b ∈ e.w ∨ (n ≤ b ∧ b < e.n')
theorem XE.has_iff {e : XE} {n b : Nat} : e.has n b = true ↔ e.Has n b := by
  simp [XE.has, XE.Has, Nat.ble_eq, Nat.blt_eq]
structure XOK (e : XE) (n : Nat) : Prop where
  le : n ≤ e.n'
  w : ∀ b ∈ e.w, b < n
  out : ∀ b k, look b e.out = some k → e.Has n b ∧ Blk.lt e.n' k = true
  q : PV.lt e.n' e.q = true
def XE.ok (e : XE) (n : Nat) : Bool :=
  Nat.ble n e.n' && (e.w.all fun b => Nat.blt b n) && (e.out.all fun x => e.has n x.1 && Blk.lt e.n' x.2) && PV.lt e.n' e.q
def LtT (n : Nat) (tm : List (Nat × PV)) : Prop := ∀ t p, look t tm = some p → PV.lt n p = true
def LtH (n : Nat) (hp : List (Nat × Blk)) : Prop := ∀ b k, look b hp = some k → b < n ∧ Blk.lt n k = true
/-- Two operations whose order is free do not meet. -/
def meets (x : XE) (nx : Nat) (e : XE) : Bool :=
  (x.w.any fun b => e.acc b) || ((List.range' nx (x.n' - nx)).any fun b => e.acc b) || (e.w.any fun b => Nat.blt b nx && x.acc b)
def apartB (A : List (List Nat)) (past : List (Nat × XE × Nat)) (i : Nat) (e : XE) : Bool :=
  past.all fun x => cmpB A x.1 i || !meets x.2.1 x.2.2 e
theorem meets_no {x e : XE} {nx : Nat} (h : meets x nx e = false) : (∀ b, x.Has nx b → e.acc b = false) ∧ ∀ b, b ∈ e.w → b < nx → x.acc b = false := by
  simp only [meets, Bool.or_eq_false_iff, List.any_eq_false, List.mem_range'_1, Bool.and_eq_true, Nat.blt_eq, not_and, Bool.not_eq_true] at h
  obtain ⟨⟨h1, h2⟩, h3⟩ := h
  refine ⟨fun b hb => ?_, h3⟩
  rcases hb with hb | ⟨q1, q2⟩
  · exact h1 b hb
  · exact h2 b ⟨q1, by omega⟩
def XOb (P : Program) (ops : Array Oper) (A : List (List Nat)) (N lo : Nat) (K : St → Prop) : List (Nat × XE × Nat) → Nat → List Oper → List (Nat × PV) → List (Nat × Blk) → Nat → Prop
  | _, _, [], tm, hp, n => K ⟨tm, N, hp, lo, n⟩
  | past, i, o :: l, tm, hp, n => ∃ e : XE, (LtT n tm → LtH n hp → XOK e n) ∧ apartB A past i e = true ∧ OneX P ops o e tm N hp n ∧ XOb P ops A N lo K ((i, e, n) :: past) (i + 1) l (pushT o.dst e.q tm) (e.hp hp) e.n'

structure XObs (P : Program) (ops : Array Oper) (A : List (List Nat)) (N m : Nat) (tm : List (Nat × PV)) (E : Nat → XE) (hp : Nat → List (Nat × Blk)) (nn : Nat → Nat) : Prop where
  hp1 : ∀ i < m, hp (i + 1) = (E i).hp (hp i)
  n1 : ∀ i < m, nn (i + 1) = (E i).n'
  ok : ∀ i < m, LtT (nn i) (tmAt ops (fun j => (E j).q) tm i) → LtH (nn i) (hp i) → XOK (E i) (nn i)
  cfl : ∀ i j, i < j → j < m → cmpB A i j = true ∨ meets (E i) (nn i) (E j) = false
  ob : ∀ i o, i < m → ops[i]? = some o → OneX P ops o (E i) (tmAt ops (fun j => (E j).q) tm i) N (hp i) (nn i)
theorem tmAt_ext {ops : Array Oper} {tm : List (Nat × PV)} (q q' : Nat → PV) : ∀ (i : Nat), (∀ k < i, q k = q' k) → tmAt ops q tm i = tmAt ops q' tm i
  | 0, _ => rfl
  | i + 1, h => by simp only [tmAt]; rw [tmAt_ext q q' i (fun k hk => h k (by omega)), h i (by omega)]
theorem XOb.obs {ops : Array Oper} {A : List (List Nat)} {N lo : Nat} {K : St → Prop} {tm : List (Nat × PV)} : ∀ (l : List Oper) (i : Nat) (past : List (Nat × XE × Nat)) (E : Nat → XE) (hp : Nat → List (Nat × Blk)) (nn : Nat → Nat),
    (∀ j, l[j]? = ops[i + j]?) → i + l.length = ops.size → (∀ j < i, (j, E j, nn j) ∈ past) → XObs P ops A N i tm E hp nn → XOb P ops A N lo K past i l (tmAt ops (fun j => (E j).q) tm i) (hp i) (nn i) →
    ∃ E' hp' nn', XObs P ops A N ops.size tm E' hp' nn' ∧ hp' 0 = hp 0 ∧ nn' 0 = nn 0 ∧ K ⟨tmAt ops (fun j => (E' j).q) tm ops.size, N, hp' ops.size, lo, nn' ops.size⟩
  | [], i, past, E, hp, nn, hl, hs, hp_, X, h => by
    simp at hs; subst hs
    exact ⟨E, hp, nn, X, rfl, rfl, h⟩
  | o :: l, i, past, E, hp, nn, hl, hs, hpast, X, h => by
    obtain ⟨e, h1, h2, h3, h4⟩ := h
    have ho : ops[i]? = some o := by have := hl 0; simpa using this.symm
    have hd : dstOf ops i = o.dst := by simp [dstOf, ho]
    let E' : Nat → XE := fun k => if k = i then e else E k
    let hp' : Nat → List (Nat × Blk) := fun k => if k = i + 1 then e.hp (hp i) else hp k
    let nn' : Nat → Nat := fun k => if k = i + 1 then e.n' else nn k
    have eE : ∀ k < i, E' k = E k := fun k hk => by simp only [E']; rw [if_neg (by omega)]
    have eEi : E' i = e := by simp only [E', if_true]
    have ehp : ∀ k ≤ i, hp' k = hp k := fun k hk => by simp only [hp']; rw [if_neg (by omega)]
    have enn : ∀ k ≤ i, nn' k = nn k := fun k hk => by simp only [nn']; rw [if_neg (by omega)]
    have ehp1 : hp' (i + 1) = e.hp (hp i) := by simp only [hp', if_true]
    have enn1 : nn' (i + 1) = e.n' := by simp only [nn', if_true]
    have etm : ∀ k ≤ i, tmAt ops (fun j => (E' j).q) tm k = tmAt ops (fun j => (E j).q) tm k := fun k hk => tmAt_ext _ _ k (fun j hj => by rw [eE j (by omega)])
    have X' : XObs P ops A N (i + 1) tm E' hp' nn' := by
      refine ⟨fun k hk => ?_, fun k hk => ?_, fun k hk => ?_, fun k j hkj hj => ?_, fun k o' hk ho' => ?_⟩
      · rcases Nat.lt_or_ge k i with q | q
        · rw [ehp _ (by omega), ehp _ (by omega), eE k q]; exact X.hp1 k q
        · obtain rfl : k = i := by omega
          rw [ehp1, ehp k (Nat.le_refl _), eEi]
      · rcases Nat.lt_or_ge k i with q | q
        · rw [enn _ (by omega), eE k q]; exact X.n1 k q
        · obtain rfl : k = i := by omega
          rw [enn1, eEi]
      · rcases Nat.lt_or_ge k i with q | q
        · rw [enn _ (by omega), eE k q, etm k (by omega), ehp k (by omega)]; exact X.ok k q
        · obtain rfl : k = i := by omega
          rw [enn k (Nat.le_refl _), eEi, etm k (Nat.le_refl _), ehp k (Nat.le_refl _)]; exact h1
      · rcases Nat.lt_or_ge j i with q | q
        · rw [eE k (by omega), eE j q, enn k (by omega)]; exact X.cfl k j hkj q
        · obtain rfl : j = i := by omega
          rw [eE k hkj, eEi, enn k (by omega)]
          have := List.all_eq_true.1 h2 _ (hpast k hkj)
          simp only [Bool.or_eq_true, Bool.not_eq_true'] at this
          exact this
      · rcases Nat.lt_or_ge k i with q | q
        · rw [etm k (by omega), ehp k (by omega), enn k (by omega), eE k q]; exact X.ob k o' q ho'
        · obtain rfl : k = i := by omega
          rw [ho] at ho'; cases ho'
          rw [etm k (Nat.le_refl _), ehp k (Nat.le_refl _), enn k (Nat.le_refl _), eEi]; exact h3
    have hpast' : ∀ j < i + 1, (j, E' j, nn' j) ∈ (i, e, nn i) :: past := fun j hj => by
      rcases Nat.lt_or_ge j i with q | q
      · rw [eE j q, enn j (by omega)]; exact List.mem_cons_of_mem _ (hpast j q)
      · obtain rfl : j = i := by omega
        rw [eEi, enn j (Nat.le_refl _)]; exact List.mem_cons_self
    obtain ⟨a, b, c, x1, x2, x3, x4⟩ := XOb.obs l (i + 1) ((i, e, nn i) :: past) E' hp' nn' (fun j => by have := hl (j + 1); rw [List.getElem?_cons_succ] at this; rw [this]; congr 1; omega) (by simp at hs; omega) hpast' X' (by
      rw [ehp1, enn1]
      simp only [tmAt]
      rw [etm i (Nat.le_refl _), hd, eEi]
      exact h4)
    exact ⟨a, b, c, x1, x2.trans (ehp 0 (by omega)), x3.trans (enn 0 (by omega)), x4⟩

/-! ### which blocks there are, when some operations have been carried out -/
theorem look_mem {α : Type} : ∀ {l : List (Nat × α)} {b : Nat} {k : α}, look b l = some k → (b, k) ∈ l
  | (j, x) :: l, b, k, h => by
    simp only [look] at h
    split at h
    · rename_i e; subst e; cases h; exact List.mem_cons_self
    · exact List.mem_cons_of_mem _ (look_mem h)
theorem XE.ok_spec {e : XE} {n : Nat} (h : e.ok n = true) : XOK e n := by
  simp only [XE.ok, Bool.and_eq_true, Nat.ble_eq, List.all_eq_true, Nat.blt_eq] at h
  obtain ⟨⟨⟨h1, h2⟩, h3⟩, h4⟩ := h
  exact ⟨h1, h2, fun b k hk => ⟨XE.has_iff.1 (h3 _ (look_mem hk)).1, (h3 _ (look_mem hk)).2⟩, h4⟩
/-- Position j tells of block b what holds where just the operations of L have been carried out. -/
def Cur (E : Nat → XE) (nn : Nat → Nat) (m : Nat) (L : Array Bool) (b j : Nat) : Prop :=
  ∀ i < m, (E i).Has (nn i) b → (L.getD i true = true ↔ i < j)
section
variable {ops : Array Oper} {A : List (List Nat)} {N m : Nat} {tm : List (Nat × PV)} {E : Nat → XE} {hp : Nat → List (Nat × Blk)} {nn : Nat → Nat}
structure XGood (X : XObs P ops A N m tm E hp nn) : Prop where
  ok : ∀ i < m, XOK (E i) (nn i)
  t : ∀ i ≤ m, LtT (nn i) (tmAt ops (fun j => (E j).q) tm i)
  h : ∀ i ≤ m, LtH (nn i) (hp i)
theorem LtT.mono {n n' : Nat} {tm : List (Nat × PV)} (h : LtT n tm) (hn : n ≤ n') : LtT n' tm := fun t p hp => PV.lt_mono hn p (h t p hp)
theorem XObs.good (X : XObs P ops A N m tm E hp nn) (ht : LtT (nn 0) tm) (hh : LtH (nn 0) (hp 0)) : XGood X := by
  have key : ∀ i ≤ m, LtT (nn i) (tmAt ops (fun j => (E j).q) tm i) ∧ LtH (nn i) (hp i) := by
    intro i
    induction i with
    | zero => intro _; exact ⟨ht, hh⟩
    | succ i ih =>
      intro hi
      obtain ⟨h1, h2⟩ := ih (by omega)
      have ok := X.ok i (by omega) h1 h2
      have hn := X.n1 i (by omega)
      have hle : nn i ≤ nn (i + 1) := by rw [hn]; exact ok.le
      refine ⟨fun t p hp_ => ?_, fun b k hk => ?_⟩
      · simp only [tmAt] at hp_
        cases hd : dstOf ops i with
        | none => rw [hd] at hp_; exact PV.lt_mono hle _ (h1 t p hp_)
        | some d =>
          rw [hd] at hp_
          simp only [pushT, look] at hp_
          split at hp_
          · cases hp_; rw [hn]; exact ok.q
          · exact PV.lt_mono hle _ (h1 t p hp_)
      · rw [X.hp1 i (by omega)] at hk
        unfold XE.hp at hk
        rw [look_append, look_rest] at hk
        cases ho : look b (E i).out with
        | some k' =>
          rw [ho] at hk; simp at hk; subst hk
          obtain ⟨g1, g2⟩ := ok.out b k' ho
          rw [hn]
          refine ⟨?_, g2⟩
          have := ok.le
          rcases g1 with g1 | g1
          · have := ok.w b g1; omega
          · exact g1.2
        | none =>
          rw [ho] at hk
          simp only [Option.none_or] at hk
          split at hk
          · cases hk
          · obtain ⟨g1, g2⟩ := h2 b k hk
            exact ⟨by omega, Blk.lt_mono hle k g2⟩
  exact ⟨fun i hi => X.ok i hi (key i (by omega)).1 (key i (by omega)).2, fun i hi => (key i hi).1, fun i hi => (key i hi).2⟩
theorem XGood.nmono {X : XObs P ops A N m tm E hp nn} (G : XGood X) {i : Nat} : ∀ {d : Nat}, i + d ≤ m → nn i ≤ nn (i + d)
  | 0, _ => Nat.le_refl _
  | d + 1, h => by
    have h1 := G.nmono (i := i) (d := d) (by omega)
    have h2 := (G.ok (i + d) (by omega)).le
    rw [← X.n1 (i + d) (by omega)] at h2
    exact Nat.le_trans h1 h2
theorem XGood.nle {X : XObs P ops A N m tm E hp nn} (G : XGood X) {i j : Nat} (h : i ≤ j) (hj : j ≤ m) : nn i ≤ nn j := by
  obtain ⟨d, rfl⟩ := Nat.exists_eq_add_of_le h
  exact G.nmono hj
theorem XGood.look1 {X : XObs P ops A N m tm E hp nn} (G : XGood X) {i : Nat} (hi : i < m) (b : Nat) : (E i).Has (nn i) b ∨ look b (hp (i + 1)) = look b (hp i) := by
  rw [X.hp1 i hi]
  unfold XE.hp
  by_cases hh : (E i).Has (nn i) b
  · exact .inl hh
  · right
    rw [look_append, look_rest]
    have : look b (E i).out = none := by
      cases hk : look b (E i).out with
      | none => rfl
      | some k => exact absurd ((G.ok i hi).out b k hk).1 hh
    rw [this, if_neg (by simpa using fun h => hh (.inl h))]
    simp
theorem XGood.const {X : XObs P ops A N m tm E hp nn} (G : XGood X) {L : Array Bool} {b i : Nat} : ∀ {d : Nat}, i + d ≤ m → Cur E nn m L b i → Cur E nn m L b (i + d) → look b (hp (i + d)) = look b (hp i)
  | 0, _, _, _ => rfl
  | d + 1, h, h1, h2 => by
    have hno : ¬ (E (i + d)).Has (nn (i + d)) b := fun hh => by
      have a1 := h1 (i + d) (by omega) hh
      have a2 := h2 (i + d) (by omega) hh
      rw [a1] at a2
      omega
    have h3 : Cur E nn m L b (i + d) := fun k hk hh => by
      rw [h2 k hk hh]
      constructor
      · intro hl
        rcases Nat.lt_or_ge k (i + d) with q | q
        · exact q
        · obtain rfl : k = i + d := by omega
          exact absurd hh hno
      · intro hl; omega
    rcases G.look1 (i := i + d) (by omega) b with q | q
    · exact absurd q hno
    · exact q.trans (G.const (by omega) h1 h3)
theorem XGood.uniq {X : XObs P ops A N m tm E hp nn} (G : XGood X) {L : Array Bool} {b i j : Nat} (hi : i ≤ m) (hj : j ≤ m) (h1 : Cur E nn m L b i) (h2 : Cur E nn m L b j) : look b (hp i) = look b (hp j) := by
  rcases Nat.le_total i j with h | h
  · obtain ⟨d, rfl⟩ := Nat.exists_eq_add_of_le h
    exact (G.const hj h1 h2).symm
  · obtain ⟨d, rfl⟩ := Nat.exists_eq_add_of_le h
    exact G.const hi h2 h1
end
/-- A list out of a function. -/
def mkH (f : Nat → Option Blk) : Nat → List (Nat × Blk)
  | 0 => []
  | n + 1 => match f n with
    | some k => (n, k) :: mkH f n
    | none => mkH f n
theorem look_mkH (f : Nat → Option Blk) : ∀ (n b : Nat), look b (mkH f n) = if b < n then f b else none
  | 0, b => by simp [mkH, look]
  | n + 1, b => by
    have ih := look_mkH f n b
    simp only [mkH]
    cases hf : f n with
    | some k =>
      simp only [look]
      by_cases e : b = n
      · subst e; simp [hf]
      · rw [if_neg e, ih]
        by_cases q : b < n
        · rw [if_pos q, if_pos (by omega)]
        · rw [if_neg q, if_neg (by omega)]
    | none =>
      simp only [ih]
      by_cases e : b = n
      · subst e; simp [hf]
      · by_cases q : b < n
        · rw [if_pos q, if_pos (by omega)]
        · rw [if_neg q, if_neg (by omega)]
end Go.Proofs.YtmhbibfkhbaclaaGreatDoor.E

/- The engine: regions whose order is free, each operation by what it touches: any order comes to the same. -/
namespace Go.Proofs.YtmhbibfkhbaclaaGreatDoor.E
open Go Go.RowKit
set_option linter.unusedVariables false
set_option linter.unusedSimpArgs false
variable {P : Program}
structure XInv (ops : Array Oper) (A : List (List Nat)) (N lo : Nat) (tm0 : List (Nat × PV)) (E : Nat → XE) (hp : Nat → List (Nat × Blk)) (nn : Nat → Nat) (B0 : Fr) (w0 : World) (φ0 : Phi) (F0 : FMem) (L : Array Bool) (a : Act) (w : World) : Prop where
  sz : L.size = ops.size
  closed : ∀ j < ops.size, L.getD j true = true → ∀ i ∈ ancAt A j, L.getD i true = true
  st : ∃ F φ H, (∀ b j k, j ≤ ops.size → Cur E nn ops.size L b j → look b (hp j) = some k → look b H = some k) ∧
    (∀ b k, look b H = some k → ∃ j ≤ ops.size, Cur E nn ops.size L b j ∧ look b (hp j) = some k) ∧
    (∀ j < ops.size, L.getD j true = false → ∀ b, nn j ≤ b → b < nn (j + 1) → φ b = none) ∧
    Sim B0 w0 φ0 F0 ⟨[], N, H, lo, nn ops.size⟩ F φ a w ∧ (∀ j < ops.size, L.getD j true = true → ∀ d, dstOf ops j = some d → VR F φ (E j).q (a.tmps.getD d undef)) ∧
    (∀ t p, look t tm0 = some p → (∀ j < ops.size, dstOf ops j = some t → L.getD j true = false) → VR F φ p (a.tmps.getD t undef))
theorem HB.mono2 {F G : FMem} {φ ψ : Phi} (hF : F.le G) (hφ : φ.le ψ) {B : Nat} {cs : Array Value} {k : Blk} (h : HB F φ B cs k) (hB : ∀ a, G a ≠ F a → a.block ≠ B) : HB G ψ B cs k := by
  cases h with
  | obj hn h hf => exact .obj hn (fun i p hp => let ⟨u, h1, h2⟩ := h i p hp; ⟨u, h1, h2.mono hF hφ⟩) (fun a u e eb => by
      by_cases q : G a = F a
      · exact hf a u (q ▸ e) eb
      · exact hB a q eb)
  | row hn he h hf => exact .row hn he (fun i x j p h1 h2 => let ⟨u, q1, q2, q3⟩ := h i x j p h1 h2; ⟨u, q1, q2.mono hF, q3⟩) (fun a u e eb => by
      by_cases q : G a = F a
      · exact hf a u (q ▸ e) eb
      · exact absurd eb (hB a q))
  | map hf => exact .map (fun a u e eb => by
      by_cases q : G a = F a
      · exact hf a u (q ▸ e) eb
      · exact hB a q eb)
theorem XInv.step {ops : Array Oper} {A : List (List Nat)} {N lo : Nat} {tm0 : List (Nat × PV)} {E : Nat → XE} {hp : Nat → List (Nat × Blk)} {nn : Nat → Nat} {B0 : Fr} {w0 : World} {φ0 : Phi} {F0 : FMem}
    (C : DOKP ops A []) (X : XObs P ops A N ops.size tm0 E hp nn) (G : XGood X) (hlo : lo ≤ nn 0)
    {L : Array Bool} {a : Act} {w : World} (I : XInv ops A N lo tm0 E hp nn B0 w0 φ0 F0 L a w) {i : Nat} (hi : i < ops.size) (hL : L.getD i true = false) (hdir : ∀ j ∈ dirOf ops i, L.getD j true = true)
    {Q : Exit → Act → World → Prop} {K : Act → World → Prop} (hK : ∀ a' w', XInv ops A N lo tm0 E hp nn B0 w0 φ0 F0 (L.setIfInBounds i true) a' w' → K a' w') : wpOp P ops Q i K a w := by
  obtain ⟨hsz, hcl, F, φ, H, hH1, hH2, hun, hs, hv, hb⟩ := I
  obtain ⟨o, ho⟩ : ∃ o, ops[i]? = some o := ⟨ops[i], Array.getElem?_eq_getElem hi⟩
  have hdo : dstOf ops i = o.dst := by simp [dstOf, ho]
  have ok := G.ok i hi
  have hn1 := X.n1 i hi
  have hids : ∀ i ≤ ops.size, LtH (nn i) (hp i) := G.h
  have hanc : ∀ j ∈ ancAt A i, L.getD j true = true := by
    intro j hj
    rcases C.anc i hi j hj with h | ⟨m, h1, h2⟩
    · exact hdir j h
    · exact hcl m (Nat.lt_trans (C.dirlt i hi m h1) hi) (hdir m h1) j h2
  have hnot : ∀ j < ops.size, i ∈ ancAt A j ∨ i = j → L.getD j true = false := by
    rintro j hj (h | rfl)
    · cases e : L.getD j true with
      | false => rfl
      | true => have := hcl j hj e i h; rw [hL] at this; cases this
    · exact hL
  have hset : ∀ j, (L.setIfInBounds i true).getD j true = if j = i then true else L.getD j true := fun j => getD_set (by omega)
  -- what is touched by it and by another one
  have before : ∀ j < i, cmpB A j i = true → L.getD j true = true := fun j hj hc => by
    rcases cmpB_spec hc with h | h | h
    · have := C.anclt j (by omega) i h; omega
    · exact hanc j h
    · omega
  have behind : ∀ j, i < j → j < ops.size → cmpB A i j = true → L.getD j true = false := fun j hj hjs hc => by
    rcases cmpB_spec hc with h | h | h
    · have := C.anclt i hi j h; omega
    · exact hnot j hjs (.inl h)
    · omega
  have hasnew : ∀ j < ops.size, ∀ b, (E j).Has (nn j) b → b < nn (j + 1) := fun j hj b hh => by
    have okj := G.ok j hj
    have := X.n1 j hj
    have := okj.le
    rcases hh with h | h
    · have := okj.w b h; omega
    · omega
  have curi : ∀ b, (E i).acc b = true → b < nn i → Cur E nn ops.size L b i := fun b hbf hbn j hj hh => by
    rcases Nat.lt_trichotomy j i with q | q | q
    · refine ⟨fun _ => q, fun _ => before j q ?_⟩
      rcases X.cfl j i q hi with h | h
      · exact h
      · have := (meets_no h).1 b hh; rw [hbf] at this; cases this
    · subst q; rw [hL]; exact ⟨fun h => (by cases h), fun h => absurd h (by omega)⟩
    · have hf : L.getD j true = false := by
        refine behind j q hj ?_
        rcases X.cfl i j q hj with h | h
        · exact h
        · rcases hh with hh | hh
          · have := (meets_no h).2 b hh hbn; rw [hbf] at this; cases this
          · have := G.nle (Nat.le_of_lt q) (Nat.le_of_lt hj)
            omega
      rw [hf]; exact ⟨fun h => (by cases h), fun h => absurd h (by omega)⟩
  have accw : ∀ j b, b ∈ (E j).w → (E j).acc b = true := fun j b h => by simp [XE.acc, h]
  have curi1 : ∀ b, (E i).Has (nn i) b → Cur E nn ops.size (L.setIfInBounds i true) b (i + 1) := fun b hbi j hj hh => by
    rw [hset]
    rcases Nat.lt_trichotomy j i with q | q | q
    · rw [if_neg (by omega)]
      refine ⟨fun _ => by omega, fun _ => before j q ?_⟩
      rcases X.cfl j i q hi with h | h
      · exact h
      · rcases hbi with hbi | hbi
        · have := (meets_no h).1 b hh; rw [accw i b hbi] at this; cases this
        · have := hasnew j hj b hh
          have := G.nle (show j + 1 ≤ i by omega) (Nat.le_of_lt hi)
          omega
    · subst q; rw [if_pos rfl]; exact ⟨fun _ => by omega, fun _ => rfl⟩
    · rw [if_neg (by omega)]
      have hf : L.getD j true = false := by
        refine behind j q hj ?_
        rcases X.cfl i j q hj with h | h
        · exact h
        · rcases hh with hh | hh
          · have := (meets_no h).1 b hbi; rw [accw j b hh] at this; cases this
          · have := hasnew i hi b hbi
            have := G.nle (show i + 1 ≤ j by omega) (Nat.le_of_lt hj)
            omega
      rw [hf]; exact ⟨fun h => (by cases h), fun h => absurd h (by omega)⟩
  have curback : ∀ b j, ¬ (E i).Has (nn i) b → Cur E nn ops.size (L.setIfInBounds i true) b j → Cur E nn ops.size L b j := fun b j hno hc m hm hh => by
    have := hc m hm hh
    rw [hset] at this
    by_cases e : m = i
    · subst e; exact absurd hh hno
    · rwa [if_neg e] at this
  -- the state that is looked at
  let Y : Fr := ⟨fun B => B0 B ∨ ∃ b k sz, ¬ ((E i).acc b = true ∧ b < nn i) ∧ look b H = some k ∧ φ b = some (B, sz), B0.ds⟩
  have hφn : ∀ b, nn ops.size ≤ b → φ b = none := hs.fresh
  have hcut : (φ.cut (nn i)).le φ := fun b x hx => by unfold Phi.cut at hx; split at hx; exact hx; cases hx
  have hpart : ∀ b k, look b ((E i).part (hp i)) = some k → ((E i).acc b = true ∧ b < nn i) ∧ look b H = some k ∧ b < nn i ∧ Blk.lt (nn i) k = true := fun b k hk => by
    rw [XE.look_part] at hk
    split at hk
    · rename_i hm
      obtain ⟨q1, q2⟩ := hids i (Nat.le_of_lt hi) b k hk
      exact ⟨⟨hm, q1⟩, hH1 b i k (Nat.le_of_lt hi) (curi b hm q1) hk, q1, q2⟩
    · cases hk
  have hsel : Sim Y w (φ.cut (nn i)) F ⟨sel ops o (tmAt ops (fun j => (E j).q) tm0 i), N, (E i).part (hp i), nn i, nn i⟩ F (φ.cut (nn i)) a w := by
    refine { below := Bel.refl _ _, base := ?_, fok := hs.fok, fle := FMem.le_refl F, fnew := fun a h => absurd rfl h, phi0 := fun _ _ => rfl, lo := Nat.le_refl _, fresh := fun b hb => ?_, size := hs.size, defers := hs.defers, tm := ?_, heap := ?_, inj := ?_ }
    · rintro B (h | ⟨b, k, sz, _, h2, h3⟩)
      · exact hs.base_le B h
      · exact hs.block_lt h2 h3
    · unfold Phi.cut; rw [if_neg (Nat.not_lt.2 hb)]
    · intro t p h
      obtain ⟨h1, rfl⟩ := look_sel h
      cases e : look t (tmAt ops (fun j => (E j).q) tm0 i) with
      | none => exact .undef _
      | some p =>
        have hlt := G.t i (Nat.le_of_lt hi) t p e
        refine VR.cut ?_ hlt
        rcases look_tmAt e with ⟨j, h2, h3, rfl⟩ | ⟨h2, h3⟩
        · rcases C.vis i hi o ho t h1 j (by omega) h3 with h | h | h
          · exact hv j (by omega) (hanc j h) t h3
          · exact absurd (C.anclt j (by omega) i h) (by omega)
          · omega
        · refine hb t p h3 (fun j hj hd => ?_)
          rcases C.vis i hi o ho t h1 j hj hd with h | h
          · exact absurd hd (h2 j (C.anclt i hi j h))
          · exact hnot j hj h
    · intro b k hk
      obtain ⟨q1, q2, q3, q4⟩ := hpart b k hk
      obtain ⟨B, cs, hl⟩ := hs.heap b k q2
      refine ⟨B, cs, by unfold Phi.cut; rw [if_pos q3]; exact hl.at_, ?_, hl.cells, hl.ty, fun es e => by subst e; exact (hl.mp es rfl).cut q4, ?_⟩
      · rintro (h | ⟨b', k', sz, h1, h2, h3⟩)
        · exact hl.old h
        · have := hs.inj b b' k k' B _ _ q2 h2 hl.at_ h3
          subst this; exact h1 q1
      · cases hl.reads with
        | obj hn' hr hF => exact .obj hn' (fun i p hp => let ⟨u, h1, h2⟩ := hr i p hp; ⟨u, h1, h2.cut (PV.lts_get q4 i p hp)⟩) hF
        | row hn' he hr hF => exact .row hn' he hr hF
        | map hF => exact .map hF
    · intro b b' k k' B sz sz' h1 h2 h3 h4
      exact hs.inj b b' k k' B sz sz' (hpart b k h1).2.1 (hpart b' k' h2).2.1 (hcut _ _ h3) (hcut _ _ h4)
  have h1 := X.ob i o hi ho
  have h2 := h1 Y w (φ.cut (nn i)) F F (φ.cut (nn i)) a w hsel (fun e a' w' => (e = .normal ∧ ∃ s' F' φ', ((∀ d, o.dst = some d → look d s'.tm = some (E i).q) ∧ (∀ b k, look b (E i).out = some k → look b s'.heap = some k) ∧ (∀ b k, (E i).acc b = true → (E i).w.contains b = false → look b (hp i) = some k → look b s'.heap = some k) ∧ s'.n ≤ (E i).n') ∧ s'.lo = nn i ∧ s'.N = N ∧ Sim Y w (φ.cut (nn i)) F s' F' φ' a' w') ∨ (e ≠ .normal ∧ Q e a' w'))
    (fun s' F' φ' a' w' e1 e2 e3 e4 => .inl ⟨rfl, s', F', φ', e1, e2, e3, e4⟩)
  refine wpOp_of_one ho h2 ?_ ?_
  rotate_left
  · rintro e a w he (⟨h, _⟩ | ⟨_, h⟩)
    · exact absurd h he
    · exact h
  rintro a' v w' htm (⟨_, s', F', φ', ⟨hq, hh, hh2, hn⟩, hlo', hN, hs'⟩ | ⟨hne, _⟩)
  rotate_left
  · exact absurd rfl hne
  apply hK
  let φ2 : Phi := fun b => if nn i ≤ b ∧ b < nn (i + 1) then φ' b else φ b
  have hmem : ∀ B, Y B → w'.heap[B]? = w.heap[B]? := hs'.below.block
  have e1 : φ.le φ2 := fun b x hx => by
    show (if nn i ≤ b ∧ b < nn (i + 1) then φ' b else φ b) = some x
    split
    · rename_i hc; rw [hun i hi hL b hc.1 hc.2] at hx; cases hx
    · exact hx
  have low : ∀ b, b < nn i → φ' b = φ b := fun b hb => by
    rw [hs'.phi0 b (by rw [hlo']; exact hb)]; unfold Phi.cut; rw [if_pos hb]
  have e2 : φ'.le φ2 := fun b x hx => by
    show (if nn i ≤ b ∧ b < nn (i + 1) then φ' b else φ b) = some x
    split
    · exact hx
    · rename_i hc
      rcases Nat.lt_or_ge b (nn i) with q | q
      · rw [← low b q]; exact hx
      · have : s'.n ≤ b := by omega
        rw [hs'.fresh b this] at hx; cases hx
  have hFY : ∀ x, F' x ≠ F x → ¬ Y x.block := hs'.fnew
  -- a block that is not touched
  have framed : ∀ b k, look b H = some k → ¬ ((E i).acc b = true ∧ b < nn i) → ∃ B cs, Live F' φ2 B0 w' b k B cs := fun b k hk hnb => by
    obtain ⟨B, cs, hl⟩ := hs.heap b k hk
    have hY : Y B := .inr ⟨b, k, _, hnb, hk, hl.at_⟩
    exact ⟨B, cs, hl.to (hmem B hY) (e1 _ _ hl.at_) hl.old hs'.fle e1 (hl.reads.mono2 hs'.fle e1 (fun x hx e => hFY x hx (e ▸ hY)))⟩
  have touched : ∀ b k, look b s'.heap = some k → ∃ B cs, Live F' φ2 B0 w' b k B cs := fun b k hk => by
    obtain ⟨B, cs, hl⟩ := hs'.heap b k hk
    exact ⟨B, cs, hl.to rfl (e2 _ _ hl.at_) (fun h => hl.old (.inl h)) (FMem.le_refl _) e2 (hl.reads.mono2 (FMem.le_refl _) e2 (fun x hx => absurd rfl hx))⟩
  -- each block behind it is one or the other
  have each : ∀ b j k, j ≤ ops.size → Cur E nn ops.size (L.setIfInBounds i true) b j → look b (hp j) = some k → (look b s'.heap = some k) ∨ (look b H = some k ∧ ¬ ((E i).acc b = true ∧ b < nn i)) := fun b j k hj hc hk => by
    by_cases ht : (E i).Has (nn i) b
    · left
      have := G.uniq hj (Nat.succ_le_of_lt hi) hc (curi1 b ht)
      rw [hk, X.hp1 i hi] at this
      refine hh b k ?_
      simp only [XE.hp] at this
      rw [look_append, look_rest] at this
      cases hout : look b (E i).out with
      | some k' => rw [hout] at this; simpa using this.symm
      | none =>
        rw [hout] at this
        simp only [Option.none_or] at this
        split at this
        · cases this
        · rename_i hcc
          rcases ht with h | h
          · exact absurd (by simpa using h) hcc
          · have := (hids i (Nat.le_of_lt hi) b k this.symm).1
            omega
    · have hc' := curback b j ht hc
      have hkH := hH1 b j k hj hc' hk
      by_cases hf : (E i).acc b = true ∧ b < nn i
      · left
        have := G.uniq hj (Nat.le_of_lt hi) hc' (curi b hf.1 hf.2)
        refine hh2 b k hf.1 ?_ (by rw [← this]; exact hk)
        cases e : (E i).w.contains b with
        | false => rfl
        | true => exact absurd (.inl (by simpa using e)) ht
      · exact .inr ⟨hkH, hf⟩
  -- the blocks behind it, as a list
  let f : Nat → Option Blk := fun b => open Classical in if h : ∃ k j, j ≤ ops.size ∧ Cur E nn ops.size (L.setIfInBounds i true) b j ∧ look b (hp j) = some k then some (Classical.choose h) else none
  have hf : ∀ b k, f b = some k ↔ ∃ j, j ≤ ops.size ∧ Cur E nn ops.size (L.setIfInBounds i true) b j ∧ look b (hp j) = some k := fun b k => by
    constructor
    · intro h
      simp only [f] at h
      split at h
      · rename_i hx; cases h; exact Classical.choose_spec hx
      · cases h
    · rintro ⟨j, q1, q2, q3⟩
      have hx : ∃ k j, j ≤ ops.size ∧ Cur E nn ops.size (L.setIfInBounds i true) b j ∧ look b (hp j) = some k := ⟨k, j, q1, q2, q3⟩
      simp only [f, dif_pos hx]
      obtain ⟨j', r1, r2, r3⟩ := Classical.choose_spec hx
      have := G.uniq q1 r1 q2 r2
      rw [q3, r3] at this
      exact this.symm
  have hH' : ∀ b k, look b (mkH f (nn ops.size)) = some k ↔ f b = some k := fun b k => by
    rw [look_mkH]
    constructor
    · intro h; split at h
      · exact h
      · cases h
    · intro h
      obtain ⟨j, q1, q2, q3⟩ := (hf b k).1 h
      have := (hids j q1 b k q3).1
      have := G.nle q1 (Nat.le_refl _)
      rw [if_pos (by omega)]; exact h
  have hlive : ∀ b k, look b (mkH f (nn ops.size)) = some k → (look b s'.heap = some k) ∨ (look b H = some k ∧ ¬ ((E i).acc b = true ∧ b < nn i)) := fun b k hk => by
    obtain ⟨j, q1, q2, q3⟩ := (hf b k).1 ((hH' b k).1 hk)
    exact each b j k q1 q2 q3
  have hni : nn i ≤ nn ops.size := G.nle (Nat.le_of_lt hi) (Nat.le_refl _)
  have hni1 : nn (i + 1) ≤ nn ops.size := G.nle (Nat.succ_le_of_lt hi) (Nat.le_refl _)
  have hloi : nn 0 ≤ nn i := G.nle (Nat.zero_le _) (Nat.le_of_lt hi)
  refine ⟨by simpa using hsz, fun j hj hLj m hm => ?_, F', φ2, mkH f (nn ops.size), fun b j k hj hc hk => (hH' b k).2 ((hf b k).2 ⟨j, hj, hc, hk⟩), fun b k hk => ?_, fun j hj hLj b hb1 hb2 => ?_, ?_, fun j hj hLj d hd => ?_, fun t p hp_ hd => ?_⟩
  · rw [hset] at hLj ⊢
    by_cases e : m = i
    · rw [if_pos e]
    · rw [if_neg e]
      by_cases e2 : j = i
      · subst e2; exact hanc m hm
      · rw [if_neg e2] at hLj; exact hcl j hj hLj m hm
  · obtain ⟨j, q1, q2, q3⟩ := (hf b k).1 ((hH' b k).1 hk)
    exact ⟨j, q1, q2, q3⟩
  · rw [hset] at hLj
    by_cases e : j = i
    · subst e; rw [if_pos rfl] at hLj; cases hLj
    · rw [if_neg e] at hLj
      show (if nn i ≤ b ∧ b < nn (i + 1) then φ' b else φ b) = none
      rw [if_neg ?_]
      · exact hun j hj hLj b hb1 hb2
      · rintro ⟨h1, h2⟩
        rcases Nat.lt_or_ge j i with q | q
        · have := G.nle (show j + 1 ≤ i by omega) (Nat.le_of_lt hi); omega
        · have := G.nle (show i + 1 ≤ j by omega) (Nat.le_of_lt hj); omega
  · refine { below := hs.below.trans ⟨hs'.below.os, hs'.below.tape, hs'.below.output, hs'.below.size, fun k hk => hmem k (.inl hk)⟩, base := hs.base, fok := hs'.fok, fle := FMem.le_trans hs.fle hs'.fle, fnew := fun x hx => ?_, phi0 := fun b hb => ?_, lo := hs.lo, fresh := fun b hb => ?_, size := hs'.size.trans hN, defers := hs'.defers, tm := fun _ _ h => (by cases h), heap := fun b k hk => ?_, inj := fun b b' k k' B s1 s2 g1 g2 g3 g4 => ?_ }
    · by_cases e : F' x = F x
      · rw [e] at hx; exact hs.fnew x hx
      · exact fun h => hFY x e (.inl h)
    · have hb' : b < lo := hb
      show (if nn i ≤ b ∧ b < nn (i + 1) then φ' b else φ b) = φ0 b
      rw [if_neg (by omega)]; exact hs.phi0 b hb
    · have hb' : nn ops.size ≤ b := hb
      show (if nn i ≤ b ∧ b < nn (i + 1) then φ' b else φ b) = none
      rw [if_neg (by omega)]; exact hs.fresh b hb
    · rcases hlive b k hk with h | h
      · exact touched b k h
      · exact framed b k h.1 h.2
    · rcases hlive b k g1 with h | h <;> rcases hlive b' k' g2 with h' | h'
      · obtain ⟨B1, cs1, l1⟩ := hs'.heap b k h
        obtain ⟨B2, cs2, l2⟩ := hs'.heap b' k' h'
        have a1 := e2 _ _ l1.at_; rw [g3] at a1; cases a1
        have a2 := e2 _ _ l2.at_; rw [g4] at a2; cases a2
        exact hs'.inj b b' k k' _ _ _ h h' l1.at_ l2.at_
      · obtain ⟨B1, cs1, l1⟩ := hs'.heap b k h
        obtain ⟨B2, cs2, l2⟩ := hs.heap b' k' h'.1
        have a1 := e2 _ _ l1.at_; rw [g3] at a1; cases a1
        have a2 := e1 _ _ l2.at_; rw [g4] at a2; cases a2
        exact absurd (.inr ⟨b', k', _, h'.2, h'.1, l2.at_⟩) l1.old
      · obtain ⟨B1, cs1, l1⟩ := hs.heap b k h.1
        obtain ⟨B2, cs2, l2⟩ := hs'.heap b' k' h'
        have a1 := e1 _ _ l1.at_; rw [g3] at a1; cases a1
        have a2 := e2 _ _ l2.at_; rw [g4] at a2; cases a2
        exact absurd (.inr ⟨b, k, _, h.2, h.1, l1.at_⟩) l2.old
      · obtain ⟨B1, cs1, l1⟩ := hs.heap b k h.1
        obtain ⟨B2, cs2, l2⟩ := hs.heap b' k' h'.1
        have a1 := e1 _ _ l1.at_; rw [g3] at a1; cases a1
        have a2 := e1 _ _ l2.at_; rw [g4] at a2; cases a2
        exact hs.inj b b' k k' _ _ _ h.1 h'.1 l1.at_ l2.at_
  · by_cases e : j = i
    · subst e
      exact (hs'.tm d (E j).q (hq d (by rw [← hdo]; exact hd))).mono (FMem.le_refl _) e2
    · rw [hset, if_neg e] at hLj
      rw [htm, put_other (by rw [← hdo]; exact C.apart j hj i hi e d hd)]
      exact (hv j hj hLj d hd).mono hs'.fle e1
  · have e3 : dstOf ops i ≠ some t := fun h => by have := hd i hi h; rw [hset, if_pos rfl] at this; cases this
    rw [htm, put_other (by rw [← hdo]; exact e3)]
    refine (hb t p hp_ (fun j hj h => ?_)).mono hs'.fle e1
    have := hd j hj h
    rw [hset] at this
    split at this
    · cases this
    · exact this
end Go.Proofs.YtmhbibfkhbaclaaGreatDoor.E

/- The engine: regions whose order is free: rules. -/
namespace Go.Proofs.YtmhbibfkhbaclaaGreatDoor.E
open Go Go.RowKit
set_option linter.unusedVariables false
set_option linter.unusedSimpArgs false
variable {P : Program}
theorem XInv.all {ops : Array Oper} {A : List (List Nat)} {N lo : Nat} {tm0 : List (Nat × PV)} {E : Nat → XE} {hp : Nat → List (Nat × Blk)} {nn : Nat → Nat} {B0 : Fr} {w0 : World} {φ0 : Phi} {F0 : FMem}
    (C : DOKP ops A []) (X : XObs P ops A N ops.size tm0 E hp nn) (G : XGood X) (hlo : lo ≤ nn 0)
    {Q : Exit → Act → World → Prop} (hQ : ∀ F φ a w, Sim B0 w0 φ0 F0 ⟨tmAt ops (fun j => (E j).q) tm0 ops.size, N, hp ops.size, lo, nn ops.size⟩ F φ a w → Q .normal a w) :
    ∀ (fuel : Nat) (L : Array Bool) (a : Act) (w : World), XInv ops A N lo tm0 E hp nn B0 w0 φ0 F0 L a w → missing ops L ≤ fuel → wpAny P .any ops Q fuel L a w := by
  have fin : ∀ (L : Array Bool) (a : Act) (w : World), XInv ops A N lo tm0 E hp nn B0 w0 φ0 F0 L a w → Region.ready .any ops L = [] → Q .normal a w := by
    intro L a w I hr
    have all : ∀ j, j < ops.size → L.getD j true = true := by
      intro j
      induction j using Nat.strongRecOn with
      | _ j ih =>
        intro hj
        cases e : L.getD j true with
        | true => rfl
        | false =>
          have : j ∈ Region.ready .any ops L := (mem_ready I.sz C.dirlt).2 ⟨hj, e, fun i hi => ih i (C.dirlt j hj i hi) (by have := C.dirlt j hj i hi; omega)⟩
          rw [hr] at this; cases this
    obtain ⟨hsz, hcl, F, φ, H, hH1, hH2, hun, hs, hv, hb⟩ := I
    have cur : ∀ b, Cur E nn ops.size L b ops.size := fun b i hi _ => ⟨fun _ => hi, fun _ => all i hi⟩
    have hl : ∀ b k, look b (hp ops.size) = some k → look b H = some k := fun b k h => hH1 b _ k (Nat.le_refl _) (cur b) h
    refine hQ F φ a w { hs with tm := fun t p h => ?_, heap := fun b k h => hs.heap b k (hl b k h), inj := fun b b' k k' B s s' h1 h2 => hs.inj b b' k k' B s s' (hl _ _ h1) (hl _ _ h2) }
    rcases look_tmAt h with ⟨j, h1, h2, rfl⟩ | ⟨h1, h2⟩
    · exact hv j h1 (all j h1) t h2
    · exact hb t p h2 (fun j hj hd => absurd hd (h1 j hj))
  intro fuel
  induction fuel with
  | zero =>
    intro L a w I hm
    have hr : Region.ready .any ops L = [] := by
      cases hr : Region.ready .any ops L with
      | nil => rfl
      | cons i l =>
        have : i ∈ Region.ready .any ops L := by rw [hr]; exact List.mem_cons_self
        obtain ⟨h1, h2, _⟩ := (mem_ready I.sz C.dirlt).1 this
        have := missing_set I.sz h1 h2
        omega
    exact ⟨hr, fin L a w I hr⟩
  | succ fuel ih =>
    intro L a w I hm
    refine ⟨fun hr => fin L a w I hr, fun i hi => ?_⟩
    obtain ⟨h1, h2, h3⟩ := (mem_ready I.sz C.dirlt).1 hi
    have := missing_set I.sz h1 h2
    exact I.step C X G hlo h1 h2 h3 (fun a' w' I' => ih _ a' w' I' (by omega))
/-! ### what stands for a value knows no blocks that there are not -/
theorem lts_of {m : Nat} : ∀ {ps : List PV}, (∀ (i : Nat) (p : PV), ps[i]? = some p → PV.lt m p = true) → PV.lts m ps = true
  | [], _ => rfl
  | p :: ps, h => by
    simp only [PV.lts, Bool.and_eq_true]
    exact ⟨h 0 p rfl, lts_of (fun i q hq => h (i + 1) q hq)⟩
theorem VR.lt {F : FMem} {φ : Phi} {p : PV} {v : Value} (h : VR F φ p v) {n : Nat} (hn : ∀ b, n ≤ b → φ b = none) : PV.lt n p = true := by
  have key : ∀ {b : Nat} {x : Nat × Nat}, φ b = some x → b < n := fun {b x} hb => by
    rcases Nat.lt_or_ge b n with q | q
    · exact q
    · rw [hn b q] at hb; cases hb
  have all : ∀ {ps : List PV} {vs : Array Value}, ps.length = vs.size → (∀ (i : Nat) (p : PV) (u : Value), ps[i]? = some p → vs[i]? = some u → PV.lt n p = true) → PV.lts n ps = true := fun {ps vs} e ih =>
    lts_of fun i p hp => by
      have hi := (List.getElem?_eq_some_iff.1 hp).1
      exact ih i p vs[i] hp (Array.getElem?_eq_getElem (by omega))
  induction h with
  | ref hb _ _ _ => simpa [PV.lt] using key hb
  | ptr hb => simpa [PV.lt] using key hb
  | rptr hb => simpa [PV.lt] using key hb
  | agg e _ ih => simpa only [PV.lt] using all e ih
  | tup e _ ih => simpa only [PV.lt] using all e ih
  | fn e1 _ e2 _ ih1 ih2 => simp only [PV.lt, Bool.and_eq_true]; exact ⟨all e1 ih1, all e2 ih2⟩
  | mp hb => simpa [PV.lt] using key hb
  | yl hb => simpa [PV.lt] using key hb
  | ifc _ ih => simpa only [PV.lt] using ih
  | @cond b want p v h hn' ih =>
    simp only [PV.lt, Bool.or_eq_true]
    by_cases e : b = want
    · exact .inl (ih e)
    · exact .inr (by simpa using e)
  | _ => rfl
theorem Sim.ltT {B0 : Fr} {w0 : World} {φ0 : Phi} {F0 : FMem} {s : St} {F : FMem} {φ : Phi} {a : Act} {w : World} (h : Sim B0 w0 φ0 F0 s F φ a w) : LtT s.n s.tm := fun t p hp => (h.tm t p hp).lt h.fresh
theorem Sim.ltH {B0 : Fr} {w0 : World} {φ0 : Phi} {F0 : FMem} {s : St} {F : FMem} {φ : Phi} {a : Act} {w : World} (h : Sim B0 w0 φ0 F0 s F φ a w) : LtH s.n s.heap := fun b k hk => by
  obtain ⟨B, cs, hl⟩ := h.heap b k hk
  refine ⟨?_, ?_⟩
  · rcases Nat.lt_or_ge b s.n with q | q
    · exact q
    · have := hl.at_; rw [h.fresh b q] at this; cases this
  · cases hr : hl.reads with
    | obj hn' hr' hF => exact lts_of fun i p hp => let ⟨u, _, h2⟩ := hr' i p hp; h2.lt h.fresh
    | row => rfl
    | @map es hF =>
      obtain ⟨ents, clock, g1, g2, g3⟩ := hl.mp _ rfl
      refine lts_of fun i p hp => ?_
      rw [List.getElem?_map, Option.map_eq_some_iff] at hp
      obtain ⟨x, hx, rfl⟩ := hp
      have hi := (List.getElem?_eq_some_iff.1 hx).1
      exact (g3 i ents[i] x (Array.getElem?_eq_getElem (by omega)) hx).2.lt h.fresh
/-- A region whose order is free: each operation touches some blocks alone. -/
theorem regXs_any {ops : Array Oper} {K : St → Prop} {tm : List (Nat × PV)} {N lo n : Nat} {hp : List (Nat × Blk)} (hA : dOK ops (mkAnc ops) [] = true)
    (h : XOb P ops (mkAnc ops) N lo K [] 0 ops.toList tm hp n) {B0 : Fr} {w0 : World} {φ0 : Phi} {F0 F : FMem} {φ : Phi} {a : Act} {w : World} (hs : Sim B0 w0 φ0 F0 ⟨tm, N, hp, lo, n⟩ F φ a w)
    {Q : Exit → Act → World → Prop} (hQ : ∀ s' F φ a w, K s' → s'.lo = lo → s'.N = N → Sim B0 w0 φ0 F0 s' F φ a w → Q .normal a w) : wpAny P .any ops Q ops.size (Array.replicate ops.size false) a w.drew := by
  have C := dOK_spec hA
  obtain ⟨E, hp', nn, X, h1, h2, hK⟩ := XOb.obs (tm := tm) ops.toList 0 [] (fun _ => ⟨.undef, false, [], [], [], n⟩) (fun _ => hp) (fun _ => n) (fun j => by simp) (by simp) (fun j hj => absurd hj (by omega)) ⟨fun i hi => absurd hi (by omega), fun i hi => absurd hi (by omega), fun i hi => absurd hi (by omega), fun i j _ hj => absurd hj (by omega), fun i o hi => absurd hi (by omega)⟩ h
  have G : XGood X := X.good (by rw [h2]; exact hs.ltT) (by rw [h1, h2]; exact hs.ltH)
  have hlo : lo ≤ nn 0 := by rw [h2]; exact hs.lo
  have hs' : Sim B0 w0 φ0 F0 ⟨tm, N, hp, lo, n⟩ F φ a w.drew := hs.drew
  have rep : ∀ j, j < ops.size → (Array.replicate ops.size false).getD j true = false := by
    intro j hj
    rw [Array.getD_eq_getD_getElem?, Array.getElem?_eq_getElem (by simpa using hj)]
    simp
  have hn : ∀ i ≤ ops.size, n ≤ nn i := fun i hi => by have := G.nle (Nat.zero_le i) hi; rw [h2] at this; exact this
  have cur0 : ∀ b, Cur E nn ops.size (Array.replicate ops.size false) b 0 := fun b i hi _ => by rw [rep i hi]; exact ⟨fun h => (by cases h), fun h => absurd h (by omega)⟩
  refine XInv.all C X G hlo (fun F φ a w hs => hQ _ F φ a w hK rfl rfl hs) ops.size _ a _ ⟨by simp, fun j hj hL => (by rw [rep j hj] at hL; cases hL), F, φ, hp, fun b j k hj hc hk => ?_, fun b k hk => ⟨0, Nat.zero_le _, cur0 b, by rw [h1]; exact hk⟩, fun j hj _ b hb _ => hs'.fresh b (Nat.le_trans (hn j (Nat.le_of_lt hj)) hb), ?_, fun j hj hL => (by rw [rep j hj] at hL; cases hL), fun t p ht _ => hs'.tm t p ht⟩ ?_
  · have := G.uniq hj (Nat.zero_le _) hc (cur0 b)
    rw [hk, h1] at this; exact this.symm
  · exact { hs' with tm := fun _ _ h => (by cases h), fresh := fun b hb => hs'.fresh b (Nat.le_trans (hn _ (Nat.le_refl _)) hb), lo := Nat.le_trans hs'.lo (hn _ (Nat.le_refl _)) }
  · unfold missing
    exact Nat.le_trans List.countP_le_length (by simp)
theorem Tri.regXs {id : Nat} {ops : Array Oper} {Q : Ex → St → Prop} {tm : List (Nat × PV)} {N lo n : Nat} {hp : List (Nat × Blk)} (hm : P.follows .mixedOrders = true) (hA : dOK ops (mkAnc ops) [] = true)
    (h : XOb P ops (mkAnc ops) N lo (Q .normal) [] 0 ops.toList tm hp n) : Tri P (.region id ops true) Q ⟨tm, N, hp, lo, n⟩ := by
  intro B0 w0 φ0 F0 F φ a w hs
  exact wp_region_any hm (regXs_any hA h hs fun s' F φ a w hk e1 e2 hs => ⟨.normal, s', F, φ, rfl, hk, e1, e2, hs⟩)
theorem Tri.regX {id : Nat} {ops : Array Oper} {Q : Ex → St → Prop} {tm : List (Nat × PV)} {N lo n : Nat} {hp : List (Nat × Blk)} (hm : P.follows .mixedOrders = true) (hA : dOK ops (mkAnc ops) [] = true) (ht : ltT n tm = true) (hh : ltB n hp = true)
    (h : XOb P ops (mkAnc ops) N lo (Q .normal) [] 0 ops.toList tm hp n) : Tri P (.region id ops true) Q ⟨tm, N, hp, lo, n⟩ := Tri.regXs hm hA h

def Yes (b : Bool) : Prop := b = true
theorem Yes.mk {b : Bool} (h : b = true) : Yes b := h
/-- Which blocks may be looked at. -/
def fpOf (A : List (List Nat)) (past : List (Nat × XE × Nat)) (i : Nat) (hp : List (Nat × Blk)) : List Nat :=
  (hp.map (·.1)).filter fun b => past.all fun x => cmpB A x.1 i || !x.2.1.has x.2.2 b
theorem XE.part_rd (q : PV) (ks w : List Nat) (out : List (Nat × Blk)) (n' : Nat) (hw : w = [] ∨ w = ks) : ∀ l : List (Nat × Blk), XE.part ⟨q, false, ks, w, out, n'⟩ l = E.part ks l
  | [] => rfl
  | x :: l => by
    have ih := XE.part_rd q ks w out n' hw l
    have e : XE.acc ⟨q, false, ks, w, out, n'⟩ x.1 = ks.contains x.1 := by
      rcases hw with rfl | rfl
      · simp [XE.acc]
      · simp [XE.acc]
    simp only [XE.part, E.part, ih, e]
theorem XE.part_w (q : PV) (ks : List Nat) (out : List (Nat × Blk)) (n' : Nat) : ∀ l : List (Nat × Blk), XE.part ⟨q, false, [], ks, out, n'⟩ l = E.part ks l
  | [] => rfl
  | x :: l => by
    have ih := XE.part_w q ks out n' l
    have e : XE.acc ⟨q, false, [], ks, out, n'⟩ x.1 = ks.contains x.1 := by simp [XE.acc]
    simp only [XE.part, E.part, ih, e]
section
variable {ops : Array Oper} {A : List (List Nat)} {N lo : Nat} {K : St → Prop} {past : List (Nat × XE × Nat)} {i : Nat} {o : Oper} {l : List Oper} {tm : List (Nat × PV)} {hp : List (Nat × Blk)} {n : Nat}
theorem X.nil (h : K ⟨tm, N, hp, lo, n⟩) : XOb P ops A N lo K past i [] tm hp n := h
theorem rest_nil : ∀ l : List (Nat × Blk), rest [] l = l := fun l => by induction l with | nil => rfl | cons x l ih => simp [rest, ih]
/-- A value; blocks are read alone. -/
theorem X.a {d : Nat} {q : PV} (hd : o.dst = some d) (h : TriL P ops [o] (fun s' => s'.tm = (d, q) :: sel ops o tm ∧ s'.heap = part (fpOf A past i hp) hp ∧ s'.n = n) ⟨sel ops o tm, N, part (fpOf A past i hp) hp, n, n⟩) (hn : Yes (ltB n hp && PV.lt n q))
    (hK : XOb P ops A N lo K ((i, ⟨q, false, fpOf A past i hp, [], [], n⟩, n) :: past) (i + 1) l ((d, q) :: tm) hp n) : XOb P ops A N lo K past i (o :: l) tm hp n := by
  have hn' : (ltB n hp && PV.lt n q) = true := hn
  simp only [Bool.and_eq_true] at hn'
  refine ⟨⟨q, false, fpOf A past i hp, [], [], n⟩, fun _ _ => ⟨Nat.le_refl _, (fun b h => by cases h), (fun b k h => by cases h), hn'.2⟩, ?_, ?_, by rw [hd]; simpa [XE.hp, rest_nil, pushT] using hK⟩
  · simp only [apartB, List.all_eq_true]
    intro x hx
    cases hc : cmpB A x.1 i with
    | true => rfl
    | false =>
      simp only [Bool.false_or, Bool.not_eq_true', meets, Bool.or_eq_false_iff, List.any_eq_false, List.mem_range'_1, List.not_mem_nil, false_implies, implies_true, and_true, Bool.not_eq_true]
      have key : ∀ b, x.2.1.Has x.2.2 b → XE.acc ⟨q, false, fpOf A past i hp, [], [], n⟩ b = false := fun b hb => by
        cases hq : XE.acc ⟨q, false, fpOf A past i hp, [], [], n⟩ b with
        | false => rfl
        | true =>
          simp only [XE.acc, cond_false, List.contains_nil, List.contains_eq_mem] at hq
          simp only [fpOf, List.mem_filter, List.all_eq_true, List.not_mem_nil, decide_false, Bool.or_false, decide_eq_true_eq] at hq
          have := hq.2 x hx
          rw [hc, XE.has_iff.2 hb] at this
          cases this
      exact ⟨fun b hb => key b (.inl hb), fun b hb => key b (.inr ⟨hb.1, by omega⟩)⟩
  · show TriL P ops [o] _ ⟨sel ops o tm, N, XE.part _ hp, n, n⟩
    rw [XE.part_rd _ _ _ _ _ (.inl rfl)]
    refine TriL.mono h fun s' _ _ ⟨h1, h2, h3⟩ => ⟨fun d' hd' => ?_, fun b k hk => (by cases hk), fun b k hc _ hk => ?_, by rw [h3]; exact Nat.le_refl _⟩
    · rw [hd] at hd'; cases hd'; rw [h1]; simp [look]
    · rw [h2, look_part]
      simp only [XE.acc, cond_false, List.contains_nil, Bool.or_false] at hc
      rw [if_pos hc]; exact hk
/-- New blocks; none is looked at. -/
theorem X.new {d : Nat} {q : PV} {hp' : List (Nat × Blk)} {n' : Nat} (hd : o.dst = some d) (h : TriL P ops [o] (fun s' => s'.tm = (d, q) :: sel ops o tm ∧ s'.heap = hp' ∧ s'.n = n') ⟨sel ops o tm, N, [], n, n⟩) (hn : Yes (XE.ok ⟨q, false, [], [], hp', n'⟩ n))
    (hK : XOb P ops A N lo K ((i, ⟨q, false, [], [], hp', n'⟩, n) :: past) (i + 1) l ((d, q) :: tm) (hp' ++ hp) n') : XOb P ops A N lo K past i (o :: l) tm hp n := by
  refine ⟨⟨q, false, [], [], hp', n'⟩, fun _ _ => XE.ok_spec hn, ?_, ?_, by rw [hd]; simpa [XE.hp, rest_nil, pushT] using hK⟩
  · simp [apartB, meets, XE.acc, List.all_eq_true, List.any_eq_false]
  · have hp0 : ∀ l : List (Nat × Blk), part [] l = [] := fun l => by induction l with | nil => rfl | cons x l ih => simp [part, ih]
    show TriL P ops [o] _ ⟨sel ops o tm, N, XE.part _ hp, n, n⟩
    rw [XE.part_rd _ _ _ _ _ (.inl rfl), hp0]
    refine TriL.mono h fun s' _ _ ⟨h1, h2, h3⟩ => ⟨fun d' hd' => ?_, fun b k hk => (by rw [h2]; exact hk), fun b k hc _ hk => (by simp [XE.acc] at hc), by rw [h3]; exact Nat.le_refl _⟩
    rw [hd] at hd'; cases hd'; rw [h1]; simp [look]
theorem part_keys : ∀ l : List (Nat × Blk), part (l.map (·.1)) l = l := by
  have : ∀ (ks : List Nat) (l : List (Nat × Blk)), (∀ x ∈ l, ks.contains x.1 = true) → part ks l = l := fun ks l => by
    induction l with
    | nil => intro _; rfl
    | cons x l ih =>
      intro h
      simp only [part, h x List.mem_cons_self, cond_true]
      rw [ih fun y hy => h y (List.mem_cons_of_mem _ hy)]
  intro l
  exact this _ l fun x hx => by simp only [List.contains_eq_mem, List.mem_map, decide_eq_true_eq]; exact ⟨x, hx, rfl⟩
theorem rest_keys : ∀ l : List (Nat × Blk), rest (l.map (·.1)) l = [] := by
  have : ∀ (ks : List Nat) (l : List (Nat × Blk)), (∀ x ∈ l, ks.contains x.1 = true) → rest ks l = [] := fun ks l => by
    induction l with
    | nil => intro _; rfl
    | cons x l ih =>
      intro h
      simp only [rest, h x List.mem_cons_self, cond_true]
      rw [ih fun y hy => h y (List.mem_cons_of_mem _ hy)]
  intro l
  exact this _ l fun x hx => by simp only [List.contains_eq_mem, List.mem_map, decide_eq_true_eq]; exact ⟨x, hx, rfl⟩
/-- All blocks, by one that stands behind all. -/
theorem X.s {hp' : List (Nat × Blk)} {n' : Nat} (hd : o.dst = none) (h : TriL P ops [o] (fun s' => s'.heap = hp' ∧ s'.n = n') ⟨sel ops o tm, N, hp, n, n⟩)
    (hn : Yes (XE.ok ⟨.undef, false, [], hp.map (·.1), hp', n'⟩ n && apartB A past i ⟨.undef, false, [], hp.map (·.1), hp', n'⟩))
    (hK : XOb P ops A N lo K ((i, ⟨.undef, false, [], hp.map (·.1), hp', n'⟩, n) :: past) (i + 1) l tm hp' n') : XOb P ops A N lo K past i (o :: l) tm hp n := by
  have hn' : (XE.ok ⟨.undef, false, [], hp.map (·.1), hp', n'⟩ n && apartB A past i ⟨.undef, false, [], hp.map (·.1), hp', n'⟩) = true := hn
  simp only [Bool.and_eq_true] at hn'
  refine ⟨⟨.undef, false, [], hp.map (·.1), hp', n'⟩, fun _ _ => XE.ok_spec hn'.1, hn'.2, ?_, by rw [hd]; simpa [XE.hp, rest_keys, pushT] using hK⟩
  show TriL P ops [o] _ ⟨sel ops o tm, N, XE.part _ hp, n, n⟩
  rw [XE.part_w, part_keys]
  exact TriL.mono h fun s' _ _ ⟨h2, h3⟩ => ⟨fun d' hd' => (by rw [hd] at hd'; cases hd'), fun b k hk => (by rw [h2]; exact hk), fun b k hc hw _ => (by simp [XE.acc] at hc hw; exact absurd hc (by simpa using hw)), by rw [h3]; exact Nat.le_refl _⟩
/-- Some blocks, and new ones. -/
theorem X.w (fp : List Nat) {d : Nat} {q : PV} {hp' : List (Nat × Blk)} {n' : Nat} (hd : o.dst = some d) (h : TriL P ops [o] (fun s' => s'.tm = (d, q) :: sel ops o tm ∧ s'.heap = hp' ∧ s'.n = n') ⟨sel ops o tm, N, part fp hp, n, n⟩)
    (hn : Yes (XE.ok ⟨q, false, [], fp, hp', n'⟩ n && apartB A past i ⟨q, false, [], fp, hp', n'⟩))
    (hK : XOb P ops A N lo K ((i, ⟨q, false, [], fp, hp', n'⟩, n) :: past) (i + 1) l ((d, q) :: tm) (hp' ++ rest fp hp) n') : XOb P ops A N lo K past i (o :: l) tm hp n := by
  have hn' : (XE.ok ⟨q, false, [], fp, hp', n'⟩ n && apartB A past i ⟨q, false, [], fp, hp', n'⟩) = true := hn
  simp only [Bool.and_eq_true] at hn'
  refine ⟨⟨q, false, [], fp, hp', n'⟩, fun _ _ => XE.ok_spec hn'.1, hn'.2, ?_, by rw [hd]; simpa [XE.hp, pushT] using hK⟩
  show TriL P ops [o] _ ⟨sel ops o tm, N, XE.part _ hp, n, n⟩
  rw [XE.part_w]
  refine TriL.mono h fun s' _ _ ⟨h1, h2, h3⟩ => ⟨fun d' hd' => ?_, fun b k hk => (by rw [h2]; exact hk), fun b k hc hw _ => (by simp [XE.acc] at hc hw; exact absurd hc (by simpa using hw)), by rw [h3]; exact Nat.le_refl _⟩
  rw [hd] at hd'; cases hd'; rw [h1]; simp [look]
end
section
variable {d ty : Nat} {pos : String} {af : Array Edge} {K : St → Prop} {ops : Array Oper} {l_ : List Oper} {tm_ : List (Nat × PV)} {N_ lo_ n_ : Nat} {hp_ : List (Nat × Blk)} {x : Operand} {f : FuncId} {ts : Array TypeId}
/-- A call that gives a row of our own. -/
theorem U.callO1 {y : Operand} {u : T} {e : Nat} {xs : List T} [hf : FnIs P f] (hx : evt tm_ x = .t (.v (.func (.func f) #[] #[]))) (hy : (evt tm_ y).toT = some u) (hr : Pure P f [u] (.one (.own e xs))) (hN : Nat.blt d N_ = true)
    (hK : TriL P ops l_ K ⟨(d, .ref n_ e 0 xs.length xs.length) :: tm_, N_, (n_, .row e xs false) :: hp_, lo_, n_ + 1⟩) : TriL P ops (⟨some d, .call ⟨.value x, #[y], ts⟩, ty, pos, af, none⟩ :: l_) K ⟨tm_, N_, hp_, lo_, n_⟩ :=
  .cons rfl (.call (xs := [y]) (s1 := ⟨tm_, N_, hp_, lo_, n_⟩) hx rfl (.tree hy .nil) hr hN hK)
end
section
variable {ops : Array Oper} {A : List (List Nat)} {N lo : Nat} {K : St → Prop} {past : List (Nat × XE × Nat)} {i : Nat} {l : List Oper} {tm : List (Nat × PV)} {hp : List (Nat × Blk)} {n d ty : Nat} {pos : String} {af : Array Edge}
/-- A new cell. -/
theorem X.alloc {t : TypeId} {ds : TypeDesc} {sz bytes : Nat} {z : Value} {p : PV} {ls : List PV} [ht : TyIs P t ds sz bytes z] (hz : ofConst z = p) (hp0 : p.known = true) (hl : p.leaves = ls) (hN : Nat.blt d N = true) (hn : Yes (XE.ok ⟨.ptr n 0, false, [], [], [(n, .obj ls)], n + 1⟩ n))
    (hK : XOb P ops A N lo K ((i, ⟨.ptr n 0, false, [], [], [(n, .obj ls)], n + 1⟩, n) :: past) (i + 1) l ((d, .ptr n 0) :: tm) ((n, .obj ls) :: hp) (n + 1)) : XOb P ops A N lo K past i (⟨some d, .alloc t, ty, pos, af, none⟩ :: l) tm hp n :=
  X.new rfl (U.alloc hz hp0 hl hN (TriL.nil ⟨rfl, rfl, rfl⟩)) hn hK
variable {x : Operand} {f : FuncId} {ts : Array TypeId}
/-- A call that gives a row of our own. -/
theorem X.callO1 {y : Operand} {u : T} {e : Nat} {xs : List T} [hf : FnIs P f] (hx : evt (sel ops ⟨some d, .call ⟨.value x, #[y], ts⟩, ty, pos, af, none⟩ tm) x = .t (.v (.func (.func f) #[] #[]))) (hy : (evt (sel ops ⟨some d, .call ⟨.value x, #[y], ts⟩, ty, pos, af, none⟩ tm) y).toT = some u) (hr : Pure P f [u] (.one (.own e xs))) (hN : Nat.blt d N = true)
    (hn : Yes (XE.ok ⟨.ref n e 0 xs.length xs.length, false, [], [], [(n, .row e xs false)], n + 1⟩ n))
    (hK : XOb P ops A N lo K ((i, ⟨.ref n e 0 xs.length xs.length, false, [], [], [(n, .row e xs false)], n + 1⟩, n) :: past) (i + 1) l ((d, .ref n e 0 xs.length xs.length) :: tm) ((n, .row e xs false) :: hp) (n + 1)) : XOb P ops A N lo K past i (⟨some d, .call ⟨.value x, #[y], ts⟩, ty, pos, af, none⟩ :: l) tm hp n :=
  X.new rfl (U.callO1 hx hy hr hN (TriL.nil ⟨rfl, rfl, rfl⟩)) hn hK
end
/-- A row of the caller's own may be taken as one that nobody writes to. -/
theorem Pure.frz {f : FuncId} {args : List T} {e : Nat} {xs : List T} (h : Pure P f args (.one (.own e xs))) : Pure P f args (.one (.t (.sl false xs))) := by
  intro F vs w hF hn hv
  refine (h F vs w hF hn hv).mono ?_
  rintro ex w' ⟨rv, F', rfl, h1, h2, h3, h4, h5⟩
  cases h5 with
  | one hr =>
    cases hr with
    | @own _ _ _ Bk c cs ty ho =>
      have hb : xs.length * e ≤ cs.size := Nat.le_trans (Nat.mul_le_mul_right e ho.cap) ho.room
      have hs : Sim ⟨fun _ => False, []⟩ w' (fun _ => none) F' ⟨[], 0, [(0, .row e xs false)], 0, 1⟩ F' (fun b => if b = 0 then some (Bk, cs.size) else none) { tmps := #[], defers := [] } w' := by
        refine ⟨Bel.refl _ _, fun _ h => h.elim, h2, FMem.le_refl _, fun x hx => absurd rfl hx, fun b hb => absurd hb (Nat.not_lt_zero b), Nat.zero_le _, fun b hb => if_neg (Nat.ne_of_gt hb), rfl, rfl, fun i p hp => (by cases hp), fun b k hk => ?_, fun b b' k k' B sz sz' g1 g2 _ _ => ?_⟩
        · simp only [look] at hk
          split at hk
          · rename_i e1; subst e1; cases hk
            exact ⟨Bk, cs, if_pos rfl, fun h => h, fun _ => ⟨ty, ho.at_⟩, fun t e => (by cases e), fun es e => (by cases e), .row hb ho.he (fun i x j p g1 g2 => ho.get i x j p g1 g2) (fun a u g1 g2 => absurd g2 (ho.free a u g1))⟩
          · cases hk
        · simp only [look] at g1 g2
          split at g1
          · split at g2
            · omega
            · cases g2
          · cases g1
      obtain ⟨F1, k1, k0, k2, k3⟩ := hs.freeze (b := 0) (e := e) (xs := xs) (fz := false) rfl
      have hv : VR F' (fun b => if b = 0 then some (Bk, cs.size) else none) (.ref 0 e 0 xs.length xs.length) rv := by
        rw [ho.val]
        have := VR.ref (F := F') (φ := fun b => if b = 0 then some (Bk, cs.size) else none) (b := 0) (e := e) (off := 0) (len := xs.length) (cap := xs.length) (B := Bk) (sz := cs.size) (c := c) (if_pos rfl) (Nat.le_refl _) ho.cap (by have := ho.room; omega)
        simpa using this
      have hx := k3 0 xs.length xs.length rv (by simp) hv
      refine ⟨rv, F1, rfl, FMem.le_trans h1 k1, k2.fok, fun x hx => ?_, h4, .one (.t (by simpa using hx))⟩
      by_cases e1 : F1 x = F' x
      · exact h3 x (e1 ▸ hx)
      · obtain ⟨sz, q⟩ := k0 x e1
        simp only [if_true, Option.some.injEq, Prod.mk.injEq] at q
        rw [← q.1]; exact ho.new
/-- A row is handed back as the caller's own. -/
theorem Comes1.retO {t : Tmp} {r : R1} {s : St} {b e len cap : Nat} {ys : List T} (h : evt s.tm (.tmp t) = .ref b e 0 len cap) (hb : look b s.heap = some (.row e ys false)) (hl : len ≤ ys.length) (hr : R1.own e (ys.take len) = r) : Comes1 t r .ret s := by
  refine ⟨.inr rfl, ?_⟩
  show Rets s [evt s.tm (.tmp t)] [r]
  rw [h, ← hr]
  exact .own hb hl rfl .nil
end Go.Proofs.YtmhbibfkhbaclaaGreatDoor.E

/- Results that are three values; calls that give several values. -/
namespace Go.Proofs.YtmhbibfkhbaclaaGreatDoor.E
open Go Go.RowKit
set_option linter.unusedVariables false
set_option linter.unusedSimpArgs false
section
variable {P : Program}
/-- Three values are the result. -/
def Comes3 (t u v : Tmp) (x y z : T) (e : Ex) (s : St) : Prop := (e = .normal ∨ e = .ret) ∧ Rets s [s.ev (.tmp t), s.ev (.tmp u), s.ev (.tmp v)] [.t x, .t y, .t z]
theorem Comes3.trees {t u v : Tmp} {x y z : T} {e : Ex} {s : St} (he : e = .normal ∨ e = .ret) (h1 : (s.ev (.tmp t)).toT = some x) (h2 : (s.ev (.tmp u)).toT = some y) (h3 : (s.ev (.tmp v)).toT = some z) : Comes3 t u v x y z e s := ⟨he, .tree h1 (.tree h2 (.tree h3 .nil))⟩
theorem results_three {fn : Func} {t u v : Tmp} (h : fn.results = #[.tmp t, .tmp u, .tmp v]) (tmps : Array Value) (w : World) : (results fn tmps).run P w = .ok (.tuple #[tmps.getD t undef, tmps.getD u undef, tmps.getD v undef]) w := by
  simp [results, h]
theorem Pure.of3 {f : FuncId} {fn : Func} {c : Code} {args : List T} {t u v : Tmp} {x y z : T} {N : Nat} (hf : P.funcs[f]? = some fn) (hb : fn.body = some c) (hN : fn.ntmps = N) (hle : args.length ≤ N) (hr : fn.results = #[.tmp t, .tmp u, .tmp v])
    (h : Tri P c (Comes3 t u v x y z) ⟨initTm 0 args, N, [], 0, 0⟩) : Pure P f args (.tup [.t x, .t y, .t z]) := by
  intro F vs w hF hn hv
  refine calls_of_wp hf hb ?_
  rw [hN]
  have hs := sim_init (N := N) hF hn hv (by omega)
  refine wp_mono (h _ _ _ _ _ _ _ _ hs) ?_
  rintro e a' w' ⟨ex, s', F', φ', rfl, ⟨hx, hq⟩, h1, h2, hs'⟩
  obtain ⟨G, bs, g1, g2, g3, g4, g5, g6, g7⟩ := hq.rr F' [a'.tmps.getD t undef, a'.tmps.getD u undef, a'.tmps.getD v undef] hs' rfl (fun i p v hp hv => by
    match i, hp, hv with
    | 0, hp, hv => cases hp; cases hv; exact hs'.ev (.tmp t)
    | 1, hp, hv => cases hp; cases hv; exact hs'.ev (.tmp u)
    | 2, hp, hv => cases hp; cases hv; exact hs'.ev (.tmp _)
    | i + 3, hp, hv => simp at hp)
  have hpost : bodyPost P fn (fun e w' => ∃ rv F', e = .returned rv ∧ F.le F' ∧ FOK F' w' ∧ (∀ a, F' a ≠ F a → w.heap.size ≤ a.block) ∧ Below w.heap.size w w' ∧ RR F' w.heap.size w' (.tup [.t x, .t y, .t z]) rv) .normal a' w' := by
    refine bodyPost_end (results_three hr _ _) hs'.defers ⟨_, G, rfl, FMem.le_trans hs'.fle g1, g2, fun x hx => ?_, hs'.below.below, .tup (fun _ => none) rfl (fun i r v hr hv => ?_) (fun i j b _ h => by cases h) (fun i b h => by cases h)⟩
    · by_cases e1 : G x = F' x
      · exact Nat.le_of_not_lt (hs'.fnew x (fun e2 => hx (e1.trans e2)))
      · obtain ⟨b, k, sz, q1, q2⟩ := g3 x e1
        obtain ⟨B, cs, hl⟩ := hs'.heap b k q1
        have := hl.at_; rw [q2] at this; cases this
        exact Nat.le_of_not_lt hl.old
    · have h5 := g5 i r v hr (by simpa using hv)
      generalize bs i = bb at h5
      match i, hr with
      | 0, hr => cases hr; cases h5 with | t h => exact .t h
      | 1, hr => cases hr; cases h5 with | t h => exact .t h
      | 2, hr => cases hr; cases h5 with | t h => exact .t h
      | i + 3, hr => simp at hr
  rcases hx with rfl | rfl
  · exact hpost
  · exact hpost
variable {d ty : Nat} {pos : String} {af : Array Edge} {K : St → Prop} {ops : Array Oper} {l_ : List Oper} {tm_ : List (Nat × PV)} {N_ lo_ n_ : Nat} {hp_ : List (Nat × Blk)} {x : Operand} {f : FuncId} {ts : Array TypeId}
theorem U.callP13 {y : Operand} {u r1 r2 r3 : T} [hf : FnIs P f] (hx : evt tm_ x = .t (.v (.func (.func f) #[] #[]))) (hy : (evt tm_ y).toT = some u) (hr : Pure P f [u] (.tup [.t r1, .t r2, .t r3])) (hN : Nat.blt d N_ = true)
    (hK : TriL P ops l_ K ⟨(d, .tup [.t r1, .t r2, .t r3]) :: tm_, N_, hp_, lo_, n_⟩) : TriL P ops (⟨some d, .call ⟨.value x, #[y], ts⟩, ty, pos, af, none⟩ :: l_) K ⟨tm_, N_, hp_, lo_, n_⟩ :=
  .cons rfl (.call (xs := [y]) (s1 := ⟨tm_, N_, hp_, lo_, n_⟩) hx rfl (.tree hy .nil) hr hN hK)
theorem U.callP3 {y z q : Operand} {u v q' r1 r2 : T} [hf : FnIs P f] (hx : evt tm_ x = .t (.v (.func (.func f) #[] #[]))) (hy : (evt tm_ y).toT = some u) (hz : (evt tm_ z).toT = some v) (hq : (evt tm_ q).toT = some q') (hr : Pure P f [u, v, q'] (.tup [.t r1, .t r2])) (hN : Nat.blt d N_ = true)
    (hK : TriL P ops l_ K ⟨(d, .tup [.t r1, .t r2]) :: tm_, N_, hp_, lo_, n_⟩) : TriL P ops (⟨some d, .call ⟨.value x, #[y, z, q], ts⟩, ty, pos, af, none⟩ :: l_) K ⟨tm_, N_, hp_, lo_, n_⟩ :=
  .cons rfl (.call (xs := [y, z, q]) (s1 := ⟨tm_, N_, hp_, lo_, n_⟩) hx rfl (.tree hy (.tree hz (.tree hq .nil))) hr hN hK)
theorem args3 {H : Prop} {s : St} {x y z : Operand} {p q r : PV} {u v t : T} (h : EvH H s x p) (k : p.toT = some u) (h' : EvH H s y q) (k' : q.toT = some v) (h'' : EvH H s z r) (k'' : r.toT = some t) : ∀ (i : Nat) (o : Operand) (r : T), [x, y, z][i]? = some o → [u, v, t][i]? = some r → ∃ q, EvH H s o q ∧ q.toT = some r := by
  intro i o r h1 h2
  cases i with
  | zero => cases h1; cases h2; exact ⟨p, h, k⟩
  | succ i => exact args2 h' k' h'' k'' i o r (by simpa using h1) (by simpa using h2)
theorem G.call3 {j_ g_ : Nat} {e_ want_ : Bool} {x y z q : Operand} {f : FuncId} {ts : Array TypeId} {u v t r : T} [hf : FnIs P f] (hx : evt tm_ x = .t (.v (.func (.func f) #[] #[]))) (hy : (evt tm_ y).un.toT = some u) (hy_ : (evt tm_ y).okc (e_ = true)) (hz : (evt tm_ z).un.toT = some v) (hz_ : (evt tm_ z).okc (e_ = true)) (hq : (evt tm_ q).un.toT = some t) (hq_ : (evt tm_ q).okc (e_ = true)) (hr : e_ = true → E.Pure P f [u, v, t] (.one (.t r)))
    (hj_ : (ops[j_]?).bind (·.dst) = some g_) (hb_ : gval (evt tm_ (.tmp g_)) want_ = some e_) (hN : Nat.blt d N_ = true)
    (hK : TriL P ops l_ K ⟨(d, .cond e_ true (.t r)) :: tm_, N_, hp_, lo_, n_⟩) : TriL P ops (⟨some d, .call ⟨.value x, #[y, z, q], ts⟩, ty, pos, af, some (j_, want_)⟩ :: l_) K ⟨tm_, N_, hp_, lo_, n_⟩ :=
  .gvo rfl hj_ hb_ rfl hN (VO.call (s := ⟨tm_, N_, hp_, lo_, n_⟩) (xs := [y, z, q]) hx rfl (args3 ⟨rfl, hy_⟩ hy ⟨rfl, hz_⟩ hz ⟨rfl, hq_⟩ hq) hr) hK
end
end Go.Proofs.YtmhbibfkhbaclaaGreatDoor.E

/- Copies into rows of our own. -/
namespace Go.Proofs.YtmhbibfkhbaclaaGreatDoor.E
open Go Go.RowKit
set_option linter.unusedVariables false
set_option linter.unusedSimpArgs false
variable {P : Program}
/-- The first elements of a row, and how long it is. -/
def SrcK (P : Program) (s : St) (y : Operand) (e m k : Nat) (ys : List T) : Prop :=
  ∀ B0 w0 φ0 F0 F φ a w, Sim B0 w0 φ0 F0 s F φ a w → ∃ news, (Builtin.lenOf (a.eval y)).run P w = .ok m w ∧ (Builtin.firstCells e k (a.eval y)).run P w = .ok news.toArray w ∧ CellsOf F ys e news
section
variable {s : St} {tx et : TypeId} {y : Operand} {e sz bytes : Nat} {z : Value}
theorem cells_none {F : FMem} {e : Nat} : CellsOf F [] e [] := ⟨by simp, fun i y h => by simp at h, fun i y j p h => by simp at h, fun _ h => by cases h⟩
theorem SrcK.row {n : Bool} {xs : List T} {k : Nat} (ht : TyIs P tx (.slice et) sz bytes z) (hy : s.ev y = .t (.sl n xs)) (hk : k ≤ xs.length) (he : ∀ (i : Nat) (x : T), xs[i]? = some x → x.leaves.length = e) : SrcK P s y e xs.length k (xs.take k) := by
  intro B0 w0 φ0 F0 F φ a w hs
  have hv := hy ▸ hs.ev y
  generalize hq : a.eval y = q at hv
  cases hv with
  | t h =>
    cases h with
    | nil =>
      obtain rfl : k = 0 := by simpa using hk
      exact ⟨[], rfl, rfl, cells_none⟩
    | @sl0 a0 c =>
      obtain rfl : k = 0 := by simpa using hk
      have h1 := Src.ofSlice (size := e) w ht.und a0 0 c [] (by simp) (fun j u h => by simp at h) (fun _ h => by cases h)
      exact ⟨[], h1.len w, h1.cells, cells_none⟩
    | @sl _ B o e' c us hc he' hF hu =>
      have hr : RowAt F xs B o e' us := ⟨he', hF, hu⟩
      rcases Nat.eq_zero_or_pos k with rfl | hk0
      · have h1 := Src.ofSlice (size := e) w ht.und ⟨B, o, none⟩ 0 c [] (by simp) (fun j u h => by simp at h) (fun _ h => by cases h)
        exact ⟨[], rfl, h1.cells, cells_none⟩
      · have hx0 : 0 < xs.length := by omega
        obtain rfl : e' = e := (he' 0 xs[0] (List.getElem?_eq_getElem hx0)).symm.trans (he 0 xs[0] (List.getElem?_eq_getElem hx0))
        have hr2 := hr.part 0 k
        simp only [Nat.zero_mul, Nat.add_zero, List.drop_zero] at hr2
        obtain ⟨h1, h2⟩ := hr2.cellsOf hs.fok
        have hl : (xs.take k).length = k := by simp; omega
        have h3 := Src.ofSlice w ht.und ⟨B, o, none⟩ k c _ (by rw [h1.len, hl]) (fun j u h => by rw [Addr.add_mid]; exact h2 j u h) h1.one
        exact ⟨_, rfl, h3.cells, h1⟩
theorem SrcK.ref {b off len cap k : Nat} {xs : List T} {fz : Bool} (ht : TyIs P tx (.slice et) sz bytes z) (hy : s.ev y = .ref b e off len cap) (hb : look b s.heap = some (.row e xs fz)) (hk : k ≤ len) (hl : off + k ≤ xs.length) : SrcK P s y e len k ((xs.drop off).take k) := by
  intro B0 w0 φ0 F0 F φ a w hs
  have hv := hy ▸ hs.ev y
  generalize hq : a.eval y = q at hv
  cases hv with
  | @ref _ _ _ _ _ B sz' c hφ h1 h2 h3 =>
    obtain ⟨B', cs, hlv⟩ := hs.heap b _ hb
    have := hlv.at_; rw [hφ] at this; cases this
    obtain ⟨t', ht'⟩ := hlv.cells rfl
    have hc := hlv.reads.cellsOf off k hl hlv.reads.ones
    have hyl : ((xs.drop off).take k).length = k := by simp; omega
    have h4 := Src.ofSlice w ht.und ⟨B, off * e, none⟩ k c _ (by rw [hc.len, hyl]) (fun j u h => by
      rw [Addr.add_mid, cell_at ht']
      rw [List.getElem?_take] at h
      split at h
      · rw [List.getElem?_drop] at h; simpa using h
      · cases h) hc.one
    exact ⟨_, rfl, h4.cells, hc⟩
end
section
variable {d ty : Nat} {pos : String} {af : Array Edge} {g : Option (Nat × Bool)} {K : St → Prop} {s : St}
theorem TriO.copyRow {t tx et : TypeId} {x y : Operand} {b off len cap m k : Nat} {xs ys : List T} {sz bytes e ebytes : Nat} {z ez : Value} {ed : TypeDesc} (ht : TyIs P t (.slice et) sz bytes z) (he : TyIs P et ed e ebytes ez)
    (hx : s.ev x = .ref b e off len cap) (hb : look b s.heap = some (.row e xs false)) (hk : k = Nat.min m len) (hsrc : SrcK P s y e m k ys) (hyl : ys.length = k) (hin : off + k ≤ xs.length) (hN : Nat.blt d s.N = true)
    (hK : K (St.put { s with heap := (b, .row e (xs.take off ++ ys ++ xs.drop (off + k)) false) :: s.heap } d (.t (.v (.int .i64 k))))) : TriO P ⟨some d, .call ⟨.builtin .copy, #[x, y], #[t, tx]⟩, ty, pos, af, g⟩ K s := by
  refine .gen rfl hN (fun B0 w0 φ0 F0 F φ a w hs => ?_)
  obtain ⟨news, n1, n2, n3⟩ := hsrc B0 w0 φ0 F0 F φ a w hs
  have hv := hx ▸ hs.ev x
  generalize hq : a.eval x = v at hv
  cases hv with
  | @ref _ _ _ _ _ B C c hφ k1 k2 k3 =>
    obtain ⟨B', cs, hlv⟩ := hs.heap b _ hb
    have := hlv.at_; rw [hφ] at this; cases this
    obtain ⟨t', ht'⟩ := hlv.cells rfl
    have hnl : news.length = k * e := by rw [n3.len, hyl]
    have hsz : xs.length * e ≤ cs.size := by cases hlv.reads with | row hn _ _ _ => exact hn
    have hm1 : (off + k) * e ≤ xs.length * e := Nat.mul_le_mul_right e hin
    rw [Nat.add_mul] at hm1
    have c1 := hlv.reads.cellsOf 0 off (by omega) hlv.reads.ones
    have c3 := hlv.reads.cellsOf (off + k) (xs.length - (off + k)) (by omega) hlv.reads.ones
    simp only [Nat.zero_mul, List.drop_zero] at c1
    have e3 : (xs.drop (off + k)).take (xs.length - (off + k)) = xs.drop (off + k) := List.take_of_length_le (by simp)
    rw [e3, Nat.add_mul] at c3
    have hcat := (c1.append n3).append c3
    have hlen' : (xs.take off ++ ys ++ xs.drop (off + k)).length = xs.length := by simp [hyl]; omega
    have hF : ∀ x u, F x = some u → x.block = B → False := fun x u e1 e2 => by cases hlv.reads with | row _ _ _ hF => cases (hF x u e1 e2).1
    have hsz' : (cs.toList.take (off * e) ++ news ++ cs.toList.drop (off * e + news.length)).toArray.size = cs.size := by
      have := splice_len (l := cs.toList) (vs := news) (o := off * e) (by simp [hnl]; omega)
      simp only [List.size_toArray]; rw [this]; simp
    have hHB : HB F φ B (cs.toList.take (off * e) ++ news ++ cs.toList.drop (off * e + news.length)).toArray (.row e (xs.take off ++ ys ++ xs.drop (off + k)) false) := by
      have h := hcat.hb (F := F) (φ := φ) (B := B) (fz := false) (rest := (cs.toList.drop (off * e + k * e)).drop ((xs.length - (off + k)) * e)) (fun x u e1 e2 => (hF x u e1 e2).elim)
      rw [List.append_assoc, List.take_append_drop] at h
      rw [hnl]; exact h
    have hupd := hs.upd hb hlv hsz' hHB (fun x u e1 e2 => (hF x u e1 e2).elim)
    refine ⟨.int .i64 k, _, s.upd b (.row e (xs.take off ++ ys ++ xs.drop (off + k)) false), F, φ, .t (.v (.int .i64 k)), ?_, rfl, rfl, hupd, .t (.v rfl), hK⟩
    have hst := run_storeCells_at (P := P) B (off * e) t' news 0 cs w ht' (by omega) n3.one
    simp only [Nat.add_zero] at hst
    have hrun : (Builtin.copy_ #[t, tx] ty #[.slice (some ⟨B, off * e, none⟩) len c, a.eval y]).run P w = .ok (goInt k) (w.setRow B (cs.toList.take (off * e) ++ news ++ cs.toList.drop (off * e + news.length)).toArray) := by
      subst hk
      simp [Builtin.copy_, ht.under, n1, he.sizeOf, n2, hst]
    simp only [execOp, resolve, invoke, builtin, List.map_toArray, List.map_cons, List.map_nil, hq, Sem.run_bind, Sem.run_pure, Result.andThen_ok, hrun]
    rfl
end
section
variable {d ty : Nat} {pos : String} {af : Array Edge} {K : St → Prop} {ops : Array Oper} {l_ : List Oper} {tm_ : List (Nat × PV)} {N_ lo_ n_ : Nat} {hp_ : List (Nat × Blk)}
theorem U.copyRow {t tx et : TypeId} {x y : Operand} {b off len cap m k : Nat} {xs ys : List T} {sz bytes e ebytes : Nat} {z ez : Value} {ed : TypeDesc} (ht : TyIs P t (.slice et) sz bytes z) (he : TyIs P et ed e ebytes ez)
    (hx : evt tm_ x = .ref b e off len cap) (hb : look b hp_ = some (.row e xs false)) (hk : k = Nat.min m len) (hsrc : SrcK P ⟨tm_, N_, hp_, lo_, n_⟩ y e m k ys) (hyl : ys.length = k) (hin : off + k ≤ xs.length) (hN : Nat.blt d N_ = true)
    (hK : TriL P ops l_ K ⟨(d, .t (.v (.int .i64 k))) :: tm_, N_, (b, .row e (xs.take off ++ ys ++ xs.drop (off + k)) false) :: hp_, lo_, n_⟩) : TriL P ops (⟨some d, .call ⟨.builtin .copy, #[x, y], #[t, tx]⟩, ty, pos, af, none⟩ :: l_) K ⟨tm_, N_, hp_, lo_, n_⟩ :=
  .cons rfl (.copyRow (s := ⟨tm_, N_, hp_, lo_, n_⟩) ht he hx hb hk hsrc hyl hin hN hK)
theorem EvH.ref0 {H : Prop} {s : St} {x : Operand} {b e o l c : Nat} (h : s.ev x = .ref b e o l c) : EvH H s x (.ref b e o l c) := ⟨by rw [h]; rfl, by rw [h]; trivial⟩
theorem EvH.int0 {H : Prop} {s : St} {x : Operand} {q : IntKind} {i : Int} (h : s.ev x = .t (.v (.int q i))) : EvH H s x (.t (.v (.int q i))) := ⟨by rw [h]; rfl, by rw [h]; trivial⟩
theorem U.cutR1 {t et : TypeId} {x y : Operand} {b off len cap j : Nat} {q : IntKind} {sz bytes e ebytes : Nat} {z ez : Value} {ed : TypeDesc} [ht : TyIs P t (.slice et) sz bytes z] [he : TyIs P et ed e ebytes ez]
    (hx : evt tm_ x = .ref b e off len cap) (hy : evt tm_ y = .t (.v (.int q (j : Int)))) (h1 : j ≤ len) (h2 : len ≤ cap) (h3 : j < cap) (hN : Nat.blt d N_ = true)
    (hK : TriL P ops l_ K ⟨(d, .ref b e (off + j) (len - j) (cap - j)) :: tm_, N_, hp_, lo_, n_⟩) : TriL P ops (⟨some d, .slice t x (some y) none none, ty, pos, af, none⟩ :: l_) K ⟨tm_, N_, hp_, lo_, n_⟩ :=
  .vo rfl rfl hN (PX.cutR (H := True) (s := ⟨tm_, N_, hp_, lo_, n_⟩) (low := some y) (high := none) (.ref0 hx) ⟨⟨q, j, .int0 hy, by omega, by omega⟩, rfl⟩ h1 h2 h3).vo hK
theorem U.cutR0 {t et : TypeId} {x y : Operand} {b off len cap j : Nat} {q : IntKind} {sz bytes e ebytes : Nat} {z ez : Value} {ed : TypeDesc} [ht : TyIs P t (.slice et) sz bytes z] [he : TyIs P et ed e ebytes ez]
    (hx : evt tm_ x = .ref b e off len cap) (hy : evt tm_ y = .t (.v (.int q (j : Int)))) (h2 : j ≤ cap) (h3 : 0 < cap) (hN : Nat.blt d N_ = true)
    (hK : TriL P ops l_ K ⟨(d, .ref b e (off + 0) (j - 0) (cap - 0)) :: tm_, N_, hp_, lo_, n_⟩) : TriL P ops (⟨some d, .slice t x none (some y) none, ty, pos, af, none⟩ :: l_) K ⟨tm_, N_, hp_, lo_, n_⟩ :=
  .vo rfl rfl hN (PX.cutR (H := True) (s := ⟨tm_, N_, hp_, lo_, n_⟩) (low := none) (high := some y) (l := 0) (.ref0 hx) ⟨rfl, ⟨q, j, .int0 hy, by omega, by omega⟩⟩ (Nat.zero_le _) h2 h3).vo hK
end
section
variable {ops : Array Oper} {A : List (List Nat)} {N lo : Nat} {K : St → Prop} {past : List (Nat × XE × Nat)} {i : Nat} {o : Oper} {l : List Oper} {tm : List (Nat × PV)} {hp : List (Nat × Blk)} {n : Nat}
/-- A value; no block is looked at. -/
theorem X.v {d : Nat} {q : PV} (hd : o.dst = some d) (h : TriL P ops [o] (fun s' => s'.tm = (d, q) :: sel ops o tm ∧ s'.heap = [] ∧ s'.n = n) ⟨sel ops o tm, N, [], n, n⟩) (hn : Yes (PV.lt n q))
    (hK : XOb P ops A N lo K ((i, ⟨q, false, [], [], [], n⟩, n) :: past) (i + 1) l ((d, q) :: tm) hp n) : XOb P ops A N lo K past i (o :: l) tm hp n := by
  have hn' : PV.lt n q = true := hn
  exact X.new hd h (show XE.ok ⟨q, false, [], [], [], n⟩ n = true by simp [XE.ok, ltB, hn']) hK
end
end Go.Proofs.YtmhbibfkhbaclaaGreatDoor.E
