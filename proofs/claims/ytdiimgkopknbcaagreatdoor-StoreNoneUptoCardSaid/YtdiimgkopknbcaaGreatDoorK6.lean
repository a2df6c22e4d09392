/- What a row's list of tables gives: the engine's tables are known. -/
import Derived.Test.YtdiimgkopknbcaaGreatDoorK5
import Derived.Lib.LaidTab
namespace Go.Proofs.YtdiimgkopknbcaaGreatDoor
open Go E
set_option maxRecDepth 100000
set_option linter.unusedVariables false
set_option linter.unusedSimpArgs false
theorem laid_mem {P : Program} {w : World} : ∀ {l : List (String × DataW Unit)} {ps : List MemPlace}, DataW.LaidVars P w l ps → ∀ x ∈ l, ∃ g t cs fuel p, P.globalNamed x.1 = some g ∧ (P.globals[g]?).map (·.type) = some t ∧ w.var? P x.1 = some cs ∧ DataW.trod (fun _ => ()) P w 0 (fun _ => true) false fuel t cs.toList = some (x.2, p)
  | [], ps, h, x, hx => by cases hx
  | (n, d) :: r, ps, h, x, hx => by
    obtain ⟨g, t, cs, fuel, p, q, h1, h2, h3, h4, h5, _⟩ := h
    rcases List.mem_cons.1 hx with rfl | hx
    · exact ⟨g, t, cs, fuel, p, h1, h2, h3, h4⟩
    · exact laid_mem h5 x hx
theorem tab_is {P : Program} {W : World} {l : List (String × DataW Unit)} {name : String} {k : IntKind} {zs : List Int} {g : Nat} {t e : TypeId} {n : Nat} (h : laidMet P l W) (hm : (name, Lib.tabData k zs) ∈ l)
    (hg : P.globalNamed name = some g) (hty : (P.globals[g]?).map (·.type) = some t) (ht : P.underlying t = some (.array n e)) (he : P.underlying e = some (.int k)) (hce : P.cellsOf e = 1) (hct : P.cellsOf t = n) : Lib.TabIs P W name k zs := by
  obtain ⟨ps, h1, _⟩ := h
  obtain ⟨g', t', cs, fuel, p, hg', ht', hvar, hd⟩ := laid_mem h1 _ hm
  obtain rfl := Option.some.inj (hg.symm.trans hg')
  obtain rfl := Option.some.inj (hty.symm.trans ht')
  unfold Lib.TabIs
  rw [hvar, ← Lib.cells_of_tab ht he hce hct hd]
theorem tab_mem {P : Program} {W : World} {name : String} {k : IntKind} {zs : List Int} {g : Nat} (h : Lib.TabIs P W name k zs) (hg : P.globalNamed name = some g) (j : Nat) (v : Value) (hv : (zs.map fun z => Value.int k z)[j]? = some v) : memOf W ⟨g, j, none⟩ = some v ∧ sc v = true := by
  rw [List.getElem?_map, Option.map_eq_some_iff] at hv
  obtain ⟨z, hz, rfl⟩ := hv
  have hi := (List.getElem?_eq_some_iff.1 hz).1
  have hc := h.cell hg j hi
  rw [List.getD_eq_getElem?_getD, hz] at hc
  exact ⟨memOf_get hc rfl, rfl⟩
theorem tab_size {P : Program} {W : World} {name : String} {k : IntKind} {zs : List Int} {g : Nat} (h : Lib.TabIs P W name k zs) (hg : P.globalNamed name = some g) : szW W g = some (zs.map fun z => Value.int k z).length := by
  unfold Lib.TabIs World.var? at h
  rw [hg] at h
  unfold szW
  simp only [Option.bind_some] at h
  split at h
  · rename_i cs a b e; cases h; rw [e]; simp
  · cases h
theorem tabIs_1 {W : World} {l : List (String × DataW Unit)} (h : laidMet Tryz.prog l W) (hm : ("math/bits.deBruijn32tab", Rows.laid_math_bits_deBruijn32tab) ∈ l) : Lib.TabIs Tryz.prog W "math/bits.deBruijn32tab" .u8 [0, 1, 28, 2, 29, 14, 24, 3, 30, 22, 20, 15, 25, 17, 4, 8, 31, 27, 13, 23, 21, 19, 16, 7, 26, 12, 18, 6, 11, 5, 10, 9] :=
  tab_is (g := 1) (t := 390) (e := 5) (n := 32) h hm (by kernel_rfl) (by kernel_rfl) (by kernel_rfl) (by kernel_rfl) (by kernel_rfl) (by kernel_rfl)
theorem tabIs_2 {W : World} {l : List (String × DataW Unit)} (h : laidMet Tryz.prog l W) (hm : ("math/bits.deBruijn64tab", Rows.laid_math_bits_deBruijn64tab) ∈ l) : Lib.TabIs Tryz.prog W "math/bits.deBruijn64tab" .u8 [0, 1, 56, 2, 57, 49, 28, 3, 61, 58, 42, 50, 38, 29, 17, 4, 62, 47, 59, 36, 45, 43, 51, 22, 53, 39, 33, 30, 24, 18, 12, 5, 63, 55, 48, 27, 60, 41, 37, 16, 46, 35, 44, 21, 52, 32, 23, 11, 54, 26, 40, 15, 34, 20, 31, 10, 25, 14, 19, 9, 13, 8, 7, 6] :=
  tab_is (g := 2) (t := 391) (e := 5) (n := 64) h hm (by kernel_rfl) (by kernel_rfl) (by kernel_rfl) (by kernel_rfl) (by kernel_rfl) (by kernel_rfl)
theorem tabIs_0 {W : World} {l : List (String × DataW Unit)} (h : laidMet Tryz.prog l W) (hm : ("internal/strconv.uint64pow10", Rows.laid_internal_strconv_uint64pow10) ∈ l) : Lib.TabIs Tryz.prog W "internal/strconv.uint64pow10" .u64 [1, 10, 100, 1000, 10000, 100000, 1000000, 10000000, 100000000, 1000000000, 10000000000, 100000000000, 1000000000000, 10000000000000, 100000000000000, 1000000000000000, 10000000000000000, 100000000000000000, 1000000000000000000, 10000000000000000000] :=
  tab_is (g := 0) (t := 387) (e := 318) (n := 20) h hm (by kernel_rfl) (by kernel_rfl) (by kernel_rfl) (by kernel_rfl) (by kernel_rfl) (by kernel_rfl)
theorem tabs_ok {W : World} {l : List (String × DataW Unit)} (h : laidMet Tryz.prog l W) (h1 : ("math/bits.deBruijn32tab", Rows.laid_math_bits_deBruijn32tab) ∈ l) (h2 : ("math/bits.deBruijn64tab", Rows.laid_math_bits_deBruijn64tab) ∈ l) (h0 : ("internal/strconv.uint64pow10", Rows.laid_internal_strconv_uint64pow10) ∈ l) : TabsW W := by
  refine ⟨?_, ?_⟩
  · intro g cs hg j v hv
    unfold tab at hg
    cases e1 : Nat.beq g 1 with
    | true =>
      rw [e1, cond_true] at hg
      obtain rfl := Nat.eq_of_beq_eq_true e1
      cases hg
      exact tab_mem (tabIs_1 h h1) (by kernel_rfl) j v hv
    | false =>
      rw [e1, cond_false] at hg
      cases e2 : Nat.beq g 2 with
      | true =>
        rw [e2, cond_true] at hg
        obtain rfl := Nat.eq_of_beq_eq_true e2
        cases hg
        exact tab_mem (tabIs_2 h h2) (by kernel_rfl) j v hv
      | false =>
        rw [e2, cond_false] at hg
        cases e0 : Nat.beq g 0 with
        | true =>
          rw [e0, cond_true] at hg
          obtain rfl := Nat.eq_of_beq_eq_true e0
          cases hg
          exact tab_mem (tabIs_0 h h0) (by kernel_rfl) j v hv
        | false =>
          rw [e0, cond_false] at hg
          cases hg
  · intro g cs hg hn
    unfold tab at hg
    cases e1 : Nat.beq g 1 with
    | true =>
      rw [e1, cond_true] at hg
      obtain rfl := Nat.eq_of_beq_eq_true e1
      cases hg
      exact tab_size (tabIs_1 h h1) (by kernel_rfl)
    | false =>
      rw [e1, cond_false] at hg
      cases e2 : Nat.beq g 2 with
      | true =>
        rw [e2, cond_true] at hg
        obtain rfl := Nat.eq_of_beq_eq_true e2
        cases hg
        exact tab_size (tabIs_2 h h2) (by kernel_rfl)
      | false =>
        rw [e2, cond_false] at hg
        cases e0 : Nat.beq g 0 with
        | true =>
          rw [e0, cond_true] at hg
          obtain rfl := Nat.eq_of_beq_eq_true e0
          cases hg
          exact tab_size (tabIs_0 h h0) (by kernel_rfl)
        | false =>
          rw [e0, cond_false] at hg
          cases hg
end Go.Proofs.YtdiimgkopknbcaaGreatDoor
