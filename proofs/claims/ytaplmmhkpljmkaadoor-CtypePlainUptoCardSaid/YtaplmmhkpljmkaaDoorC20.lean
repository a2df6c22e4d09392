/- Layer 13: the chapter's examples. -/
import Derived.Test.YtaplmmhkpljmkaaDoorC19
namespace Go.Proofs.YtaplmmhkpljmkaaDoor
open Go E
set_option maxRecDepth 100000
set_option maxHeartbeats 4000000
set_option linter.unusedVariables false
set_option linter.unusedSimpArgs false
attribute [local irreducible] Tri TriL TriO PO VO E.Pure DOb
def exU (k : Int) : Ty := .mk k true [] true [] 0
def exA : Ty := .mk 13 false [⟨#[97]⟩, ⟨#[98]⟩, ⟨#[99]⟩] false [exU 3, exU 7, exU 5] 0
def exB : Ty := .mk 17 true [] false [exU 9] 0
def exC : Ty := .mk 15 false [⟨#[97]⟩, ⟨#[98]⟩] false [exU 11, exU 9] 0
theorem exA_small : small exA := by simp [exA, exU, small, smalls, big]; decide
theorem exB_small : small exB := by simp [exB, exU, small, smalls, big]
theorem exC_small : small exC := by simp [exC, exU, small, smalls, big]; decide
theorem exA_may : mayB exA = true := by decide +kernel
theorem exB_may : mayB exB = true := by decide +kernel
theorem exC_may : mayB exC = true := by decide +kernel
theorem exA_lay : layN exA = (12, 4) := by decide +kernel
theorem exB_lay : layN exB = (16, 8) := by decide +kernel
theorem exA_pl : placesN exA = [0, 4, 8] := by decide +kernel
theorem exB_fl : flN exB = [127, 126] := by decide +kernel
theorem exC_fl : flN exC = [127, 126, 127] := by decide +kernel
theorem awake_p (HN : LexName) : E.Pure Tryd.prog 9 [] (.one (.t (tBool true))) := by
  have o3 := of_p 3 true []
  have o5 := of_p 5 true []
  have o7 := of_p 7 true []
  have o9 := of_p 9 true []
  have o11 := of_p 11 true []
  have o17 := of_p 17 false [exU 9]
  have sA := size_p HN exA exA_small
  have aA := align_p HN exA exA_small
  have pA := places_p HN exA exA_small
  have sB := size_p HN exB exB_small
  have aB := align_p HN exB exB_small
  have fB := Flat_p HN exB exB_small
  have fC := Flat_p HN exC exC_small
  rw [if_pos exA_may, exA_lay] at sA aA
  rw [if_pos exA_may, exA_pl] at pA
  rw [if_pos exB_may, exB_lay] at sB aB
  rw [if_pos exB_may, exB_fl] at fB
  rw [if_pos exC_may, exC_fl] at fC
  have q1 := same_p [0, 4, 8] [0, 4, 8] false false (by decide) (by decide)
  have q2 := same_p [127, 126] [127, 126] false false (by decide) (by decide)
  have q3 := same_p [127, 126, 127] [127, 126, 127] false false (by decide) (by decide)
  refine Pure.of1 Tryd.func9 rfl rfl (Nat.le_of_ble_eq_true rfl) rfl ?_
  repeat' (first | refine Tri.seq ?_ | refine Tri.reg ?_ | refine TriL.nil ?_ | (apply U.assignT; rfl; trivial; rfl) | (apply U.alloc; rfl; rfl; rfl; rfl) | (apply U.storeS; rfl; rfl; rfl; rfl; rfl; rfl; rfl; rfl) | refine U.call2 rfl rfl rfl (by assumption) rfl ?_ | fail)
  (apply U.litT; rfl; rfl; rfl; rfl; rfl; rfl; rfl; rfl)
  repeat' (first | (apply U.loadS; rfl; rfl; trivial; rfl; rfl; rfl; rfl; rfl) | fail)
  (apply U.litT; rfl; rfl; rfl; rfl; rfl; rfl; rfl; rfl)
  repeat' (first | refine Tri.seq ?_ | refine Tri.reg ?_ | refine TriL.nil ?_ | (apply U.loadS; rfl; rfl; trivial; rfl; rfl; rfl; rfl; rfl) | (apply U.alloc; rfl; rfl; rfl; rfl) | (apply U.storeS; rfl; rfl; rfl; rfl; rfl; rfl; rfl; rfl) | (apply U.build; rfl; rfl; rfl; rfl; rfl) | fail)
  (apply U.litT; rfl; rfl; rfl; rfl; rfl; rfl; rfl; rfl)
  repeat' (first | refine Tri.seq ?_ | refine Tri.reg ?_ | refine TriL.nil ?_ | (apply U.alloc; rfl; rfl; rfl; rfl) | (apply U.storeS; rfl; rfl; rfl; rfl; rfl; rfl; rfl; rfl) | refine U.call2 rfl rfl rfl (by assumption) rfl ?_ | fail)
  (apply U.litT; rfl; rfl; rfl; rfl; rfl; rfl; rfl; rfl)
  repeat' (first | (apply U.loadS; rfl; rfl; trivial; rfl; rfl; rfl; rfl; rfl) | fail)
  (apply U.litT; rfl; rfl; rfl; rfl; rfl; rfl; rfl; rfl)
  repeat' (first | refine Tri.seq ?_ | refine Tri.reg ?_ | refine TriL.nil ?_ | (apply U.moveT; rfl; trivial; rfl) | (apply U.assignT; rfl; trivial; rfl) | (apply U.bin; rfl; trivial; rfl; trivial; rfl; rfl) | (apply U.loadS; rfl; rfl; trivial; rfl; rfl; rfl; rfl; rfl) | (apply U.pickb; rfl; trivial; rfl; (first | trivial | exact id | exact And.right | exact gvA | exact gvB | exact And.left | exact gvN | exact gvP2 | exact gvN2 | exact gvLA); rfl; (first | trivial | exact id | exact And.right | exact gvA | exact gvB | exact And.left | exact gvN | exact gvP2 | exact gvN2 | exact gvLA); rfl) | (apply U.alloc; rfl; rfl; rfl; rfl) | (apply U.storeS; rfl; rfl; rfl; rfl; rfl; rfl; rfl; rfl) | (apply G.bin; rfl; (first | trivial | exact id | exact And.right | exact gvA | exact gvB | exact And.left | exact gvN | exact gvP2 | exact gvN2 | exact gvLA); rfl; (first | trivial | exact id | exact And.right | exact gvA | exact gvB | exact And.left | exact gvN | exact gvP2 | exact gvN2 | exact gvLA); rfl; rfl; rfl; rfl) | (apply G.loadS; rfl; rfl; (first | trivial | exact id | exact And.right | exact gvA | exact gvB | exact And.left | exact gvN | exact gvP2 | exact gvN2 | exact gvLA); rfl; rfl; rfl; rfl; rfl; rfl; rfl) | refine U.call1 rfl rfl (by assumption) rfl ?_ | refine G.call1 rfl rfl (by (first | trivial | exact id | exact And.right | exact gvA | exact gvB | exact And.left | exact gvN | exact gvP2 | exact gvN2 | exact gvLA)) (by first | assumption | exact fun _ => by assumption) rfl rfl rfl ?_ | refine G.call2 rfl rfl (by (first | trivial | exact id | exact And.right | exact gvA | exact gvB | exact And.left | exact gvN | exact gvP2 | exact gvN2 | exact gvLA)) rfl (by (first | trivial | exact id | exact And.right | exact gvA | exact gvB | exact And.left | exact gvN | exact gvP2 | exact gvN2 | exact gvLA)) (by first | assumption | exact fun _ => by assumption) rfl rfl rfl ?_ | refine Tri.ret ?_ | (apply U.build; rfl; rfl; rfl; rfl; rfl) | (apply G.litT; rfl; rfl; rfl; rfl; rfl; rfl; rfl; rfl; rfl; rfl) | fail)
  exact Comes1.ret rfl rfl
end Go.Proofs.YtaplmmhkpljmkaaDoor
