/- What an argument reads as, is a tree: memory, numbers, texts, lists. -/
import Derived.Test.YtdiimgkopknbcaaGreatDoorK4
import Derived.Test.YtdiimgkopknbcaaGreatDoorRows
import Derived.Test.YtdiimgkopknbcaaGreatDoorChecked
namespace Go.Proofs.YtdiimgkopknbcaaGreatDoor
open Go E
set_option maxRecDepth 100000
set_option maxHeartbeats 4000000
set_option linter.unusedVariables false
set_option linter.unusedSimpArgs false
/-- A world's memory, as what is known for good. -/
def memOf (w : World) : FMem := fun a => match w.cell? a with
  | some u => if u.oneCell' = true then some u else none
  | none => none
/-- The package's tables lie in a world. -/
structure TabsW (w : World) : Prop where
  mem : Tabs (memOf w)
  size : ∀ g cs, tab g = some cs → cs ≠ [] → szW w g = some cs.length
theorem memOf_ok (w : World) (ht : TabsW w) : FOK (memOf w) w := by
  refine ⟨fun a u h => ?_, ht.mem, ht.size⟩
  unfold memOf at h
  split at h
  · rename_i v hv
    split at h
    · cases h; exact ⟨hv, ‹_›⟩
    · cases h
  · cases h
theorem memOf_get {w : World} {a : Addr} {u : Value} (h : w.cell? a = some u) (h1 : u.oneCell' = true) : memOf w a = some u := by
  unfold memOf; rw [h]; simp [h1]
theorem cell_spot {w : World} {a : Addr} {u : Value} (h : w.cell? a = some u) : a.spot = none := by
  unfold World.cell? at h
  split at h
  · split at h
    · cases h
    · rename_i hs; simpa using hs
  · cases h
structure Rd (F : FMem) (x : T) (cs : List Value) : Prop where
  len : x.leaves.length = cs.length
  get : ∀ (j : Nat) (p : T), x.leaves[j]? = some p → ∃ u, cs[j]? = some u ∧ TR F p u
section
variable {H : Type} {enc : TypeId × Value → H} {w : World} {spare : Nat → Bool} {held : Bool}
theorem rd_str {n : Nat} {cs : List Value} {d : DataW H} {ps : List MemPlace} (h : DataW.trod enc Tryz.prog w 0 spare held n 9 cs = some (d, ps)) : ∃ s, cs = [.string s] ∧ Rows.uptoBulk d = s.size + 1 := by
  cases n with
  | zero => simp [DataW.trod] at h
  | succ n =>
    rcases cs with _ | ⟨v, _ | ⟨v2, tl⟩⟩
    · simp [DataW.trod, Tryz.underlying9] at h
    · cases v <;> simp [DataW.trod, Tryz.underlying9] at h
      rename_i s
      obtain ⟨_, rfl, _⟩ := h
      exact ⟨s, rfl, by simp [Rows.uptoBulk]⟩
    · simp [DataW.trod, Tryz.underlying9] at h
theorem rd_int {n : Nat} {cs : List Value} {d : DataW H} {ps : List MemPlace} (h : DataW.trod enc Tryz.prog w 0 spare held n 3 cs = some (d, ps)) : ∃ k, cs = [.int .i64 k] := by
  cases n with
  | zero => simp [DataW.trod] at h
  | succ n =>
    rcases cs with _ | ⟨v, _ | ⟨v2, tl⟩⟩
    · simp [DataW.trod, Tryz.underlying3] at h
    · cases v <;> simp [DataW.trod, Tryz.underlying3] at h
      rename_i q k
      obtain ⟨⟨rfl, _⟩, _⟩ := h
      exact ⟨k, rfl⟩
    · simp [DataW.trod, Tryz.underlying3] at h
theorem rd_slice {α : Type} {n : Nat} {t e : TypeId} {m : Nat} {ft : α → T} {good : α → DataW H → Prop} (hu : Tryz.prog.underlying t = some (.slice e)) (hm : Tryz.prog.cellsOf e = m) (hm0 : 0 < m)
    (hft : ∀ x, (ft x).leaves.length = m ∧ (ft x).flatL = true) (hel : ∀ cs d ps, DataW.trod enc Tryz.prog w 0 spare held n e cs = some (d, ps) → ∃ x, Rd (memOf w) (ft x) cs ∧ good x d)
    {cs : List Value} {d : DataW H} {ps : List MemPlace} (h : DataW.trod enc Tryz.prog w 0 spare held (n + 1) t cs = some (d, ps)) :
    ∃ (v : Value) (nl : Bool) (xs : List α) (es : List (DataW H)), cs = [v] ∧ TR (memOf w) (.sl nl (xs.map ft)) v ∧ Rows.uptoBulkAll es + 1 ≤ Rows.uptoBulk d ∧ xs.length = es.length ∧ (∀ (i : Nat) (x : α) (d : DataW H), xs[i]? = some x → es[i]? = some d → good x d) := by
  rcases cs with _ | ⟨v, _ | ⟨v2, tl⟩⟩
  · simp [DataW.trod, hu] at h
  · cases v with
    | slice a len cap =>
      cases a with
      | none =>
        have hz : len = 0 ∧ cap = 0 := by
          rcases len with _ | len <;> rcases cap with _ | cap <;> simp [DataW.trod, hu] at h ⊢
        obtain ⟨rfl, rfl⟩ := hz
        simp [DataW.trod, hu] at h
        obtain ⟨rfl, _⟩ := h
        exact ⟨_, true, [], [], rfl, .nil, by simp [Rows.uptoBulk, Rows.uptoBulkAll], rfl, fun i x d h => by simp at h⟩
      | some a =>
        simp only [DataW.trod, hu, hm] at h
        split at h
        · rename_i hb
          simp only [Option.bind_eq_some_iff, Option.map_eq_some_iff] at h
          obtain ⟨elems, h1, rest, _, h2⟩ := h
          obtain ⟨rfl, _⟩ := Prod.mk.inj h2
          obtain ⟨l1, l2⟩ := mapM_some h1
          simp only [List.length_range] at l1
          have key : ∀ i : Fin len, ∃ x : α, ∃ cs d ps, w.cells? 0 (a.add (i.val * m)) m = some cs ∧ elems[i.val]? = some (d, ps) ∧ Rd (memOf w) (ft x) cs ∧ good x d := by
            intro i
            have hi : i.val < elems.length := by omega
            have h3 := l2 i.val i.val elems[i.val] (by simp) (List.getElem?_eq_getElem hi)
            simp only [Option.bind_eq_some_iff] at h3
            obtain ⟨cs, h4, h5⟩ := h3
            obtain ⟨x, h6, h7⟩ := hel cs _ _ (by rw [h5])
            exact ⟨x, cs, _, _, h4, by rw [List.getElem?_eq_getElem hi], h6, h7⟩
          have hx : ∃ f : Fin len → α, ∀ i, ∃ cs d ps, w.cells? 0 (a.add (i.val * m)) m = some cs ∧ elems[i.val]? = some (d, ps) ∧ Rd (memOf w) (ft (f i)) cs ∧ good (f i) d := ⟨fun i => Classical.choose (key i), fun i => Classical.choose_spec (key i)⟩
          obtain ⟨f, hf⟩ := hx
          have hget : ∀ (i : Nat) (x : α), (List.ofFn f)[i]? = some x → ∃ h : i < len, x = f ⟨i, h⟩ := by
            intro i x hx
            have hi := (List.getElem?_eq_some_iff.1 hx).1
            simp at hi
            refine ⟨hi, ?_⟩
            rw [List.getElem?_eq_getElem (by simpa using hi)] at hx
            simpa using hx.symm
          refine ⟨_, false, List.ofFn f, elems.map (·.1), rfl, ?_, by simp only [Rows.uptoBulk]; omega, by simp [l1], fun i x d h3 h4 => ?_⟩
          · rcases Nat.eq_zero_or_pos len with e0 | e0
            · subst e0
              simpa using TR.sl0
            · have hcell : ∀ (i : Nat) (hi : i < len) (cs : List Value), w.cells? 0 (a.add (i * m)) m = some cs → cs.length = m ∧ ∀ (j : Nat) (u : Value), cs[j]? = some u → w.cell? ((a.add (i * m)).add j) = some u := by
                intro i hi cs hc
                unfold World.cells? at hc
                rw [if_pos (Nat.zero_le _)] at hc
                obtain ⟨c1, c2⟩ := mapM_some hc
                rw [List.length_range] at c1
                refine ⟨c1, fun j u hj => ?_⟩
                have hjl := (List.getElem?_eq_some_iff.1 hj).1
                exact c2 j j u (List.getElem?_range (by omega)) hj
              have hspot : a = ⟨a.block, a.off, none⟩ := by
                obtain ⟨cs, d, ps, g1, g2, g3, g4⟩ := hf ⟨0, e0⟩
                obtain ⟨c1, c2⟩ := hcell 0 e0 cs g1
                have := c2 0 cs[0] (List.getElem?_eq_getElem (by omega))
                have e1 : (a.add (0 * m)).add 0 = a := by rw [Nat.zero_mul]; rfl
                rw [e1] at this
                have hsp := cell_spot this
                cases a; simp only at hsp; subst hsp; rfl
              rw [hspot]
              have hlen : ((List.ofFn f).map ft).length = len := by simp
              have hat : ∀ (i : Nat) (x : T) (j : Nat) (p : T), ((List.ofFn f).map ft)[i]? = some x → x.leaves[j]? = some p → ∃ u, w.cell? ⟨a.block, a.off + i * m + j, none⟩ = some u ∧ TR (memOf w) p u ∧ u.oneCell' = true := by
                intro i x j p hx hp
                simp only [List.getElem?_map, Option.map_eq_some_iff] at hx
                obtain ⟨y, hy, rfl⟩ := hx
                obtain ⟨hi, rfl⟩ := hget i y hy
                obtain ⟨cs, d, ps, g1, g2, g3, g4⟩ := hf ⟨i, hi⟩
                obtain ⟨c1, c2⟩ := hcell i hi cs g1
                obtain ⟨u, q1, q2⟩ := g3.get j p hp
                have q3 := c2 j u q1
                rw [hspot, Addr.add_mid, Addr.add_mid] at q3
                refine ⟨u, q3, q2, q2.one ?_⟩
                exact List.all_eq_true.1 (hft _).2 p (List.mem_of_getElem? hp)
              have hsl := TR.sl (F := memOf w) (xs := (List.ofFn f).map ft) (B := a.block) (o := a.off) (e := m) (c := cap) (fun i j => (w.cell? ⟨a.block, a.off + i * m + j, none⟩).getD undef) (by rw [hlen]; exact hb.2.1) (fun i x hx => ?_) (fun i x j p hx hp => ?_) (fun i x j p hx hp => ?_)
              · rw [hlen] at hsl; exact hsl
              · simp only [List.getElem?_map, Option.map_eq_some_iff] at hx
                obtain ⟨y, hy, rfl⟩ := hx
                exact (hft y).1
              · obtain ⟨u, q1, q2, q3⟩ := hat i x j p hx hp
                rw [q1]; exact memOf_get q1 q3
              · obtain ⟨u, q1, q2, q3⟩ := hat i x j p hx hp
                rw [q1]; exact q2
          · obtain ⟨hi, rfl⟩ := hget i x h3
            obtain ⟨cs, d', ps', g1, g2, g3, g4⟩ := hf ⟨i, hi⟩
            rw [List.getElem?_map, g2] at h4
            cases h4; exact g4
        · cases h
    | _ => simp [DataW.trod, hu] at h
  · simp [DataW.trod, hu] at h
theorem tStr_flat (s : ByteArray) : (tStr s).leaves.length = 1 ∧ (tStr s).flatL = true := ⟨rfl, rfl⟩
theorem bulk_one {d : DataW H} : 1 ≤ Rows.uptoBulk d := by
  cases d with
  | lit l => cases l <;> simp [Rows.uptoBulk]
  | _ => simp [Rows.uptoBulk]
theorem bulk_len : ∀ (l : List (DataW H)), l.length ≤ Rows.uptoBulkAll l
  | [] => by simp
  | d :: l => by have h1 := bulk_len l; have h2 := bulk_one (d := d); simp only [Rows.uptoBulkAll, List.length_cons]; omega
theorem bulk_get : ∀ {l : List (DataW H)} {i : Nat} {d : DataW H}, l[i]? = some d → Rows.uptoBulk d ≤ Rows.uptoBulkAll l
  | [], i, d, h => by simp at h
  | x :: l, 0, d, h => by simp at h; subst h; simp only [Rows.uptoBulkAll]; omega
  | x :: l, i + 1, d, h => by have := bulk_get (l := l) (i := i) (d := d) (by simpa using h); simp only [Rows.uptoBulkAll]; omega
theorem get1 {l : List Value} {i : Nat} {v : Value} (h : (l.drop i).take 1 = [v]) : l[i]? = some v := by
  have : ((l.drop i).take 1)[0]? = some v := by rw [h]; rfl
  rw [List.getElem?_take] at this
  simpa using this
end
end Go.Proofs.YtdiimgkopknbcaaGreatDoor
