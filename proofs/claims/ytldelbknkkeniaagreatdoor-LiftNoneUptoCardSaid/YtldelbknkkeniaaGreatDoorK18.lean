/- Layer 13, the code: Itoa of small numbers, Clone. -/
import Derived.Test.YtldelbknkkeniaaGreatDoorK15
import Derived.Test.YtldelbknkkeniaaGreatDoorK17
namespace Go.Proofs.YtldelbknkkeniaaGreatDoor
open Go E
set_option maxRecDepth 100000
set_option maxHeartbeats 4000000
set_option linter.unusedVariables false
set_option linter.unusedSimpArgs false
attribute [local irreducible] Tri TriL TriO PO VO E.Pure DOb
/-- A small number, as it is written. -/
def digT (n : Nat) : ByteArray := ⟨if n < 10 then #[UInt8.ofNat (48 + n)] else #[UInt8.ofNat (48 + n / 10), UInt8.ofNat (48 + n % 10)]⟩
theorem small_p (n : Nat) (h : n < 100) : E.Pure Tryz.prog 146 [tInt n] (.one (.t (tStr (digT n)))) := by
  refine Pure.of1 Tryz.func146 rfl rfl (Nat.le_of_ble_eq_true rfl) rfl ?_
  repeat' (first | refine Tri.seq ?_ | refine Tri.reg ?_ | refine TriL.nil ?_ | (apply U.moveT; rfl; trivial; rfl) | (apply U.assignT; rfl; trivial; rfl) | (apply U.add; rfl; trivial; rfl; trivial; exact fun _ => wrap_i64 (by omega) (by omega); rfl) | (apply U.mul; rfl; trivial; rfl; trivial; exact fun _ => (by first | assumption | exact wrap_i64 (by omega) (by omega)); rfl) | (apply U.bin; rfl; trivial; rfl; trivial; rfl; rfl) | refine Tri.skip ?_ | (refine Tri.cond rfl (fun h => ?_) (fun h => ?_) <;> (try simp at h) <;> (try contradiction)) | fail)
  · refine U.cutSLH rfl trivial rfl trivial rfl trivial (fun _ => by omega) (fun _ => by omega) (fun _ => ?_) rfl ?_
    · show (n : Int) + 1 ≤ ((36 : Nat) : Int); omega
    repeat' (first | refine TriL.nil ?_ | (apply U.assignT; rfl; trivial; rfl) | refine Tri.ret ?_ | fail)
    refine Comes1.ret rfl ?_
    refine congrArg R1.t (congrArg T.v (congrArg Value.string (ByteArray.ext ?_)))
    revert n; decide
  · refine U.cutSLH rfl trivial rfl trivial rfl trivial (fun _ => by omega) (fun _ => by omega) (fun _ => ?_) rfl ?_
    · show (n : Int) * 2 + 2 ≤ ((200 : Nat) : Int); omega
    repeat' (first | refine TriL.nil ?_ | (apply U.assignT; rfl; trivial; rfl) | refine Tri.ret ?_ | fail)
    refine Comes1.ret rfl ?_
    refine congrArg R1.t (congrArg T.v (congrArg Value.string (ByteArray.ext ?_)))
    revert n; decide
theorem itoa_p (n : Nat) (h : n < 100) : E.Pure Tryz.prog 102 [tInt n] (.one (.t (tStr (digT n)))) := by
  have h1 := small_p n h
  have h2 : E.Pure Tryz.prog 134 [tInt n, tInt 10] (.one (.t (tStr (digT n)))) := by
    refine Pure.of1 Tryz.func134 rfl rfl (Nat.le_of_ble_eq_true rfl) rfl ?_
    repeat' (first | refine Tri.seq ?_ | refine Tri.reg ?_ | refine TriL.nil ?_ | (apply U.moveT; rfl; trivial; rfl) | (apply U.assignT; rfl; trivial; rfl) | (apply U.bin; rfl; trivial; rfl; trivial; rfl; rfl) | (apply U.conv; rfl; trivial; rfl; rfl) | (apply U.pickb; rfl; trivial; rfl; (first | trivial | exact id | exact And.right | exact gvA | exact gvB | exact And.left | exact gvN | exact gvP2 | exact gvN2 | exact gvLA); rfl; (first | trivial | exact id | exact And.right | exact gvA | exact gvB | exact And.left | exact gvN | exact gvP2 | exact gvN2 | exact gvLA); rfl) | (apply U.alloc; rfl; rfl; rfl; rfl) | (apply G.moveT; rfl; (first | trivial | exact id | exact And.right | exact gvA | exact gvB | exact And.left | exact gvN | exact gvP2 | exact gvN2 | exact gvLA); rfl; rfl; rfl) | (apply G.bin; rfl; (first | trivial | exact id | exact And.right | exact gvA | exact gvB | exact And.left | exact gvN | exact gvP2 | exact gvN2 | exact gvLA); rfl; (first | trivial | exact id | exact And.right | exact gvA | exact gvB | exact And.left | exact gvN | exact gvP2 | exact gvN2 | exact gvLA); rfl; rfl; rfl; rfl) | refine U.call1 rfl rfl (by assumption) rfl ?_ | refine Tri.skip ?_ | refine Tri.ret ?_ | (refine Tri.cond rfl (fun h => ?_) (fun h => ?_) <;> (try simp at h) <;> (try contradiction)) | fail)
    · exact Comes1.ret rfl rfl
    all_goals (exfalso; omega)
  have h3 : E.Pure Tryz.prog 121 [tInt n] (.one (.t (tStr (digT n)))) := by
    refine Pure.of1 Tryz.func121 rfl rfl (Nat.le_of_ble_eq_true rfl) rfl ?_
    repeat' (first | refine Tri.seq ?_ | refine Tri.reg ?_ | refine TriL.nil ?_ | (apply U.moveT; rfl; trivial; rfl) | (apply U.assignT; rfl; trivial; rfl) | refine U.call2 rfl rfl rfl (by assumption) rfl ?_ | refine Tri.ret ?_ | fail)
    exact Comes1.ret rfl rfl
  refine Pure.of1 Tryz.func102 rfl rfl (Nat.le_of_ble_eq_true rfl) rfl ?_
  repeat' (first | refine Tri.seq ?_ | refine Tri.reg ?_ | refine TriL.nil ?_ | (apply U.moveT; rfl; trivial; rfl) | (apply U.assignT; rfl; trivial; rfl) | refine U.call1 rfl rfl (by assumption) rfl ?_ | refine Tri.ret ?_ | fail)
  exact Comes1.ret rfl rfl
theorem clone_p (l : List T) (nn : Bool) (hb : l.length ≤ 1000) (ht : (l.all fun x => x.leaves.length == 1) = true) (hn : nn = true → l = []) : E.Pure Tryz.prog 103 [.sl nn l] (.one (.t (.sl nn l))) := by
  refine Pure.of1 Tryz.func103 rfl rfl (Nat.le_of_ble_eq_true rfl) rfl ?_
  repeat' (first | refine Tri.seq ?_ | refine Tri.reg ?_ | refine TriL.nil ?_ | (apply U.moveT; rfl; trivial; rfl) | (apply U.assignT; rfl; trivial; rfl) | refine Tri.skip ?_ | refine Tri.ret ?_ | (apply U.eqNil; rfl; trivial; rfl; trivial; rfl) | (refine Tri.cond rfl (fun h => ?_) (fun h => ?_) <;> (try simp at h) <;> (try contradiction)) | fail)
  · refine Comes1.ret rfl ?_
    subst h; rw [hn rfl]
  · (apply U.lit; rfl; rfl; rfl; rfl; rfl; rfl; rfl; rfl)
    repeat' (first | (apply U.moveT; rfl; trivial; rfl) | fail)
    refine U.appOwn rfl rfl rfl rfl (SrcE.t rfl ht) ?_ ?_ rfl ?_
    · omega
    · omega
    repeat' (first | refine TriL.nil ?_ | (apply U.assignR; rfl; trivial; rfl) | refine Tri.ret ?_ | fail)
    refine Comes1.retF rfl rfl (by simp) ?_
    subst h; simp
theorem cloneT_p (l : List T) (nn : Bool) (hb : l.length ≤ 1000) (ht : (l.all fun x => x.leaves.length == 4) = true) (hn : nn = true → l = []) : E.Pure Tryz.prog 104 [.sl nn l] (.one (.t (.sl nn l))) := by
  refine Pure.of1 Tryz.func104 rfl rfl (Nat.le_of_ble_eq_true rfl) rfl ?_
  repeat' (first | refine Tri.seq ?_ | refine Tri.reg ?_ | refine TriL.nil ?_ | (apply U.moveT; rfl; trivial; rfl) | (apply U.assignT; rfl; trivial; rfl) | refine Tri.skip ?_ | refine Tri.ret ?_ | (apply U.eqNil; rfl; trivial; rfl; trivial; rfl) | (refine Tri.cond rfl (fun h => ?_) (fun h => ?_) <;> (try simp at h) <;> (try contradiction)) | fail)
  · refine Comes1.ret rfl ?_
    subst h; rw [hn rfl]
  · (apply U.lit; rfl; rfl; rfl; rfl; rfl; rfl; rfl; rfl)
    repeat' (first | (apply U.moveT; rfl; trivial; rfl) | fail)
    refine U.appOwn rfl rfl rfl rfl (SrcE.t rfl ht) ?_ ?_ rfl ?_
    · omega
    · omega
    repeat' (first | refine TriL.nil ?_ | (apply U.assignR; rfl; trivial; rfl) | refine Tri.ret ?_ | fail)
    refine Comes1.retF rfl rfl (by simp) ?_
    subst h; simp
end Go.Proofs.YtldelbknkkeniaaGreatDoor

/- Layer 13, the code: Plain. -/
namespace Go.Proofs.YtldelbknkkeniaaGreatDoor
open Go E
set_option maxRecDepth 100000
set_option maxHeartbeats 4000000
set_option linter.unusedVariables false
set_option linter.unusedSimpArgs false
attribute [local irreducible] Tri TriL TriO PO VO E.Pure DOb
def ty0 : Ty := .mk 0 true [] true [] 0
def nmNone : ByteArray := ⟨#[110, 111, 110, 101]⟩
def nmSome : ByteArray := ⟨#[115, 111, 109, 101]⟩
def nmOk : ByteArray := ⟨#[111, 107]⟩
def nmError : ByteArray := ⟨#[101, 114, 114, 111, 114]⟩
def digs (n : Nat) : List ByteArray := (List.range n).map digT
/-- Plain; z: is the list of types of a variant without cases nil? -/
def plainT (z : Bool) (t : Ty) : Ty :=
  if t.kind = 14 then .mk 13 t.l.isEmpty (digs t.l.length) t.l.isEmpty t.l 0
  else if t.kind = 16 then .mk 15 t.nn t.names (z && t.names.isEmpty) (List.replicate t.names.length ty0) 0
  else if t.kind = 17 then .mk 15 false [nmNone, nmSome] false (ty0 :: t.l) 0
  else if t.kind = 18 then .mk 15 false [nmOk, nmError] t.nl t.l 0
  else t
theorem encTys_rep (n : Nat) (t : Ty) : encTys (List.replicate n t) = List.replicate n (encTy t) := by
  induction n with
  | zero => rfl
  | succ n ih => rw [List.replicate_succ, List.replicate_succ, encTys, ih]
theorem encTys_app : ∀ (a b : List Ty), encTys (a ++ b) = encTys a ++ encTys b
  | [], b => rfl
  | t :: a, b => by simp [encTys, encTys_app a b]
theorem leaves_all (l : List Ty) : ((encTys l).all fun x => x.leaves.length == 4) = true := by
  induction l with
  | nil => rfl
  | cons t l ih => simp [encTys, leaves_encTy, ih]
theorem leaves_str (l : List ByteArray) : ((l.map tStr).all fun x => x.leaves.length == 1) = true := by
  simp [tStr, T.leaves]
structure Wf (t : Ty) : Prop where
  nn : t.nn = true → t.names = []
  nl : t.nl = true → t.l = []
theorem wf_sl {F : FMem} {n : Bool} {xs : List T} {v : Value} (h : TR F (.sl n xs) v) : n = true → xs = [] := by
  cases h with
  | nil => intro _; rfl
  | sl0 => intro _; rfl
  | sl => intro h; cases h
theorem wf_ty {F : FMem} {t : Ty} {v : Value} (h : TR F (encTy t) v) : Wf t := by
  rw [encTy_eta] at h
  cases h with
  | @agg xs vs hn h =>
    have hs : vs.size = 4 := by simpa using hn.symm
    have h1 := h 1 _ vs[1] rfl (Array.getElem?_eq_getElem (by omega))
    have h2 := h 2 _ vs[2] rfl (Array.getElem?_eq_getElem (by omega))
    refine ⟨fun e => ?_, fun e => ?_⟩
    · simpa using wf_sl h1 e
    · have := wf_sl h2 e
      have h3 := encTys_length t.l
      rw [this] at h3
      exact List.length_eq_zero_iff.1 h3.symm
theorem plain_p (t : Ty) (h1 : t.names.length ≤ 64) (h2 : t.l.length ≤ 64) : E.Pure Tryz.prog 72 [encTy t] (.one (.t (encTy (plainT false t)))) := by
  refine E.Pure.wf1 (fun F v h => wf_ty h) fun hw => ?_
  have hlen := encTys_length t.l
  have hlen2 : (t.names.map tStr).length = t.names.length := by simp
  have hc1 := clone_p (t.names.map tStr) t.nn (by omega) (leaves_str _) (fun e => by rw [hw.nn e]; rfl)
  have hc2 := cloneT_p (encTys t.l) t.nl (by omega) (leaves_all _) (fun e => by rw [hw.nl e]; rfl)
  refine Pure.ofC rfl Tryz.func72 rfl rfl (Nat.le_of_ble_eq_true rfl) rfl ?_
  rw [encTy_eta t]
  repeat' (first | refine Tri.seq ?_ | refine Tri.reg ?_ | refine TriL.nil ?_ | (apply U.moveT; rfl; trivial; rfl) | (apply U.assignT; rfl; trivial; rfl) | (apply U.load; rfl; rfl; trivial; rfl; rfl; rfl) | (apply U.fld; rfl; trivial; rfl; infer_instance; decide; rfl) | (apply U.bin; rfl; trivial; rfl; trivial; rfl; rfl) | (apply U.len; rfl; trivial; rfl) | (apply U.loadS; rfl; rfl; trivial; rfl; rfl; rfl; rfl; rfl) | (apply U.boxA; rfl; rfl) | (apply U.alloc; rfl; rfl; rfl; rfl) | (apply U.storeS; rfl; rfl; rfl; rfl; rfl; rfl; rfl; rfl) | refine Tri.skip ?_ | refine Tri.block ?_ | refine Tri.ret ?_ | (apply U.build; rfl; rfl; rfl; rfl; rfl) | (refine Tri.cond rfl (fun h => ?_) (fun h => ?_) <;> (try simp at h) <;> (try contradiction)) | fail)
  · -- a tuple
    refine Tri.loopL (fun i => match i with
        | 0 => ⟨[(14, .t (tInt ((0 : Nat) : Int))), (13, .t (tInt t.l.length)), (12, .t (.sl t.nl (encTys t.l))), (3, .ptr 2 0), (2, .ptr 1 0)], Tryz.f72.ntmps, [(2, .obj [.t (tInt 13), .t (.sl true []), .t (.sl true []), .t (tInt 0)]), (1, .obj [.t (tInt 0), .t (.sl true []), .t (.sl true []), .t (tInt 0)])], 0, 3⟩
        | k + 1 => ⟨[(14, .t (tInt ((k + 1 : Nat) : Int))), (13, .t (tInt t.l.length)), (12, .t (.sl t.nl (encTys t.l))), (3, .ptr 2 0), (2, .ptr 1 0)], Tryz.f72.ntmps, [(2, .obj [.t (tInt 13), .ref 3 1 0 (k + 1) (k + 1), .ref 4 4 0 (k + 1) (k + 1), .t (tInt 0)]), (1, .obj [.t (tInt 0), .t (.sl true []), .t (.sl true []), .t (tInt 0)]), (3, .row 1 ((digs (k + 1)).map tStr) false), (4, .row 4 (encTys (t.l.take (k + 1))) false)], 0, 5⟩)
      (fun i => i ≤ t.l.length) (fun i => t.l.length - i) 0 (Nat.zero_le _) ?_ ?_
    · refine Sub.less (Sub.of rfl rfl ⟨rfl, ?_, rfl, rfl, rfl, trivial⟩ ⟨rfl, rfl, trivial⟩)
      rw [← hlen]; rfl
    rintro (_ | k) hi
    · repeat' (first | refine Tri.seq ?_ | refine Tri.reg ?_ | refine TriL.nil ?_ | (apply U.moveT; rfl; trivial; rfl) | (apply U.bin; rfl; trivial; rfl; trivial; rfl; rfl) | (apply U.loadS; rfl; rfl; trivial; rfl; rfl; rfl; rfl; rfl) | (apply U.storeS; rfl; rfl; rfl; rfl; rfl; rfl; rfl; rfl) | refine Tri.skip ?_ | refine Tri.block ?_ | refine Tri.exit ?_ | refine Tri.ret ?_ | (refine Tri.cond rfl (fun h => ?_) (fun h => ?_) <;> (try simp at h) <;> (try contradiction)) | fail)
      · have hlt : 0 < t.l.length := by omega
        have hget := get_ty hlt
        have hit := itoa_p 0 (by omega)
        repeat' (first | refine TriL.nil ?_ | (apply U.assignT; rfl; trivial; rfl) | (apply U.loadES; rfl; rfl; trivial; rfl; rfl; rfl) | (apply U.idx; rfl; trivial; rfl; trivial; exact fun _ => (by omega); exact fun _ => (by assumption); exact fun _ => rfl; rfl) | (apply U.alloc; rfl; rfl; rfl; rfl) | (apply U.storeS; rfl; rfl; rfl; rfl; rfl; rfl; rfl; rfl) | fail)
        refine Tri.regDB [(2, .obj [.t (tInt 13), .t (.sl true []), .t (.sl true []), .t (tInt 0)]), (3, .obj ((agTy t.l[0]).leaves.map .t))] [5, 10, 12, 14] mixed (by kernel_rfl) (.of ⟨rfl, rfl, trivial⟩) ?_
        repeat' (first | refine TriL.nil ?_ | exact ⟨rfl, rfl, rfl⟩ | (apply D.v; rfl; rfl; rfl) | (apply U.moveT; rfl; trivial; rfl) | (apply U.load; rfl; rfl; trivial; rfl; rfl; rfl) | (apply U.fld; rfl; trivial; rfl; infer_instance; decide; rfl) | refine U.call1 rfl rfl (by assumption) rfl ?_ | fail)
        · (apply U.litT; rfl; rfl; rfl; rfl; rfl; rfl; rfl; rfl)
          repeat' (first | refine TriL.nil ?_ | exact ⟨rfl, rfl, rfl⟩ | fail)
        (apply D.e; rfl; rfl; rfl; rotate_left)
        · refine U.appNil rfl (SrcE.t rfl rfl) Nat.zero_lt_one (Nat.le_of_ble_eq_true rfl) (Nat.le_of_ble_eq_true rfl) rfl ?_
          repeat' (first | refine TriL.nil ?_ | exact ⟨rfl, rfl, rfl⟩ | fail)
        (apply D.f; rfl; rfl; rfl; intro hp_ n_)
        · repeat' (first | refine TriL.nil ?_ | exact ⟨rfl, rfl, rfl⟩ | (apply U.fld; rfl; trivial; rfl; infer_instance; decide; rfl) | fail)
        (apply D.fb; rfl; rfl; rfl; intro hp_ n_ hk_)
        · refine U.load rfl rfl trivial (hk_ 2 _ rfl) rfl rfl ?_
          repeat' (first | refine TriL.nil ?_ | exact ⟨rfl, rfl, rfl⟩ | fail)
        (apply D.fb; rfl; rfl; rfl; intro hp_ n_ hk_)
        · refine U.loadS rfl rfl trivial (hk_ 3 _ rfl) rfl rfl rfl rfl ?_
          repeat' (first | refine TriL.nil ?_ | exact ⟨rfl, rfl, rfl⟩ | fail)
        (apply D.f; rfl; rfl; rfl; intro hp_ n_)
        · (apply U.litT; rfl; rfl; rfl; rfl; rfl; rfl; rfl; rfl)
          repeat' (first | refine TriL.nil ?_ | exact ⟨rfl, rfl, rfl⟩ | fail)
        (apply D.e; rfl; rfl; rfl; rotate_left)
        · refine U.appNil rfl (SrcE.t rfl rfl) Nat.zero_lt_one (Nat.le_of_ble_eq_true rfl) (Nat.le_of_ble_eq_true rfl) rfl ?_
          repeat' (first | refine TriL.nil ?_ | exact ⟨rfl, rfl, rfl⟩ | fail)
        (apply D.f; rfl; rfl; rfl; intro hp_ n_)
        · repeat' (first | refine TriL.nil ?_ | exact ⟨rfl, rfl, rfl⟩ | (apply U.fld; rfl; trivial; rfl; infer_instance; decide; rfl) | fail)
        skip
        (apply D.s; rfl; rfl; rfl; rotate_left)
        repeat' (first | refine TriL.nil ?_ | exact ⟨rfl, rfl, rfl⟩ | (apply D.v; rfl; rfl; rfl) | (apply U.fld; rfl; trivial; rfl; infer_instance; decide; rfl) | (apply U.store; rfl; rfl; rfl; rfl; rfl; rfl; rfl) | exact ⟨rfl, rfl⟩ | fail)
        (apply D.s; rfl; rfl; rfl; rotate_left)
        repeat' (first | refine Tri.reg ?_ | refine TriL.nil ?_ | refine D.nil ?_ | (apply U.moveT; rfl; trivial; rfl) | (apply U.add; rfl; trivial; rfl; trivial; exact fun _ => wrap_i64 (by omega) (by omega); rfl) | (apply U.store; rfl; rfl; rfl; rfl; rfl; rfl; rfl) | exact ⟨rfl, rfl⟩ | fail)
        · refine ⟨0 + 1, hlt, by omega, ?_⟩
          refine Less.ren (fun b => if b = 3 then 4 else if b = 4 then 5 else b) rfl rfl ⟨rfl, rfl, rfl, rfl, rfl, trivial⟩ ⟨rfl, rfl, ?_, ?_, trivial⟩ rfl rfl rfl
          · rfl
          · rw [show t.l.take (0 + 1) = [t.l[0]] from (by rw [List.take_succ_eq_append_getElem hlt]; rfl), encTys, encTys, encTy_eta]; rfl
        all_goals first | (exact fun _ => .of ⟨rfl, rfl, trivial⟩) | (intro h_; cases h_)
      · -- the end
        have hz : t.l.length = 0 := by first | omega | exact List.length_eq_zero_iff.2 (by assumption)
        refine ComesC.tree rfl rfl rfl rfl ?_
        rw [plainT, if_pos (by assumption)]
        have : t.l = [] := List.length_eq_zero_iff.1 hz
        rw [this]; rfl
    · repeat' (first | refine Tri.seq ?_ | refine Tri.reg ?_ | refine TriL.nil ?_ | (apply U.moveT; rfl; trivial; rfl) | (apply U.bin; rfl; trivial; rfl; trivial; rfl; rfl) | (apply U.loadS; rfl; rfl; trivial; rfl; rfl; rfl; rfl; rfl) | (apply U.storeS; rfl; rfl; rfl; rfl; rfl; rfl; rfl; rfl) | refine Tri.skip ?_ | refine Tri.block ?_ | refine Tri.exit ?_ | refine Tri.ret ?_ | (refine Tri.cond rfl (fun h => ?_) (fun h => ?_) <;> (try simp at h) <;> (try contradiction)) | fail)
      · have hlt : k + 1 < t.l.length := by omega
        have hget := get_ty hlt
        have hit := itoa_p (k + 1) (by omega)
        repeat' (first | refine TriL.nil ?_ | (apply U.assignT; rfl; trivial; rfl) | (apply U.loadES; rfl; rfl; trivial; rfl; rfl; rfl) | (apply U.idx; rfl; trivial; rfl; trivial; exact fun _ => (by omega); exact fun _ => (by assumption); exact fun _ => rfl; rfl) | (apply U.alloc; rfl; rfl; rfl; rfl) | (apply U.storeS; rfl; rfl; rfl; rfl; rfl; rfl; rfl; rfl) | fail)
        refine Tri.regDB [(2, .obj [.t (tInt 13), .ref 3 1 0 (k + 1) (k + 1), .ref 4 4 0 (k + 1) (k + 1), .t (tInt 0)]), (5, .obj ((agTy t.l[k + 1]).leaves.map .t))] [5, 10, 12, 14] mixed (by kernel_rfl) (.of ⟨rfl, rfl, trivial⟩) ?_
        repeat' (first | refine TriL.nil ?_ | exact ⟨rfl, rfl, rfl⟩ | (apply D.v; rfl; rfl; rfl) | (apply U.moveT; rfl; trivial; rfl) | (apply U.load; rfl; rfl; trivial; rfl; rfl; rfl) | (apply U.fld; rfl; trivial; rfl; infer_instance; decide; rfl) | refine U.call1 rfl rfl (by assumption) rfl ?_ | fail)
        · (apply U.litT; rfl; rfl; rfl; rfl; rfl; rfl; rfl; rfl)
          repeat' (first | refine TriL.nil ?_ | exact ⟨rfl, rfl, rfl⟩ | fail)
        (apply D.e; rfl; rfl; rfl; rotate_left)
        · refine U.appOwn rfl rfl (by simp [digs]) (by simp [digs]) (SrcE.t rfl rfl) (by simp; omega) (by simp; omega) rfl ?_
          repeat' (first | refine TriL.nil ?_ | exact ⟨rfl, rfl, rfl⟩ | fail)
        (apply D.f; rfl; rfl; rfl; intro hp_ n_)
        · repeat' (first | refine TriL.nil ?_ | exact ⟨rfl, rfl, rfl⟩ | (apply U.fld; rfl; trivial; rfl; infer_instance; decide; rfl) | fail)
        (apply D.fb; rfl; rfl; rfl; intro hp_ n_ hk_)
        · refine U.load rfl rfl trivial (hk_ 2 _ rfl) rfl rfl ?_
          repeat' (first | refine TriL.nil ?_ | exact ⟨rfl, rfl, rfl⟩ | fail)
        (apply D.fb; rfl; rfl; rfl; intro hp_ n_ hk_)
        · refine U.loadS rfl rfl trivial (hk_ 5 _ rfl) rfl rfl rfl rfl ?_
          repeat' (first | refine TriL.nil ?_ | exact ⟨rfl, rfl, rfl⟩ | fail)
        (apply D.f; rfl; rfl; rfl; intro hp_ n_)
        · (apply U.litT; rfl; rfl; rfl; rfl; rfl; rfl; rfl; rfl)
          repeat' (first | refine TriL.nil ?_ | exact ⟨rfl, rfl, rfl⟩ | fail)
        (apply D.e; rfl; rfl; rfl; rotate_left)
        · refine U.appOwn rfl rfl (by simp [encTys_length]; omega) (by simp [encTys_length]; omega) (SrcE.t rfl rfl) (by simp; omega) (by simp; omega) rfl ?_
          repeat' (first | refine TriL.nil ?_ | exact ⟨rfl, rfl, rfl⟩ | fail)
        (apply D.f; rfl; rfl; rfl; intro hp_ n_)
        · repeat' (first | refine TriL.nil ?_ | exact ⟨rfl, rfl, rfl⟩ | (apply U.fld; rfl; trivial; rfl; infer_instance; decide; rfl) | fail)
        skip
        (apply D.s; rfl; rfl; rfl; rotate_left)
        repeat' (first | refine TriL.nil ?_ | exact ⟨rfl, rfl, rfl⟩ | (apply D.v; rfl; rfl; rfl) | (apply U.fld; rfl; trivial; rfl; infer_instance; decide; rfl) | (apply U.store; rfl; rfl; rfl; rfl; rfl; rfl; rfl) | exact ⟨rfl, rfl⟩ | fail)
        (apply D.s; rfl; rfl; rfl; rotate_left)
        repeat' (first | refine Tri.reg ?_ | refine TriL.nil ?_ | refine D.nil ?_ | (apply U.moveT; rfl; trivial; rfl) | (apply U.add; rfl; trivial; rfl; trivial; exact fun _ => wrap_i64 (by omega) (by omega); rfl) | (apply U.store; rfl; rfl; rfl; rfl; rfl; rfl; rfl) | exact ⟨rfl, rfl⟩ | fail)
        · refine ⟨k + 1 + 1, hlt, by omega, ?_⟩
          refine Less.ren (fun b => if b = 3 then 6 else if b = 4 then 7 else b) rfl rfl ⟨rfl, rfl, rfl, rfl, rfl, trivial⟩ ⟨rfl, rfl, ?_, ?_, trivial⟩ rfl rfl rfl
          · rw [show (digs (k + 1 + 1)).map tStr = (digs (k + 1)).map tStr ++ [tStr (digT (k + 1))] from (by simp [digs, List.range_succ])]; rfl
          · rw [List.take_succ_eq_append_getElem hlt, encTys_app, encTys, encTys, encTy_eta]; rfl
        all_goals first | (exact fun _ => .of ⟨rfl, rfl, trivial⟩) | (intro h_; cases h_)
      · -- the end
        have hz : t.l.length = k + 1 := by omega
        refine ComesC.of rfl rfl (ls' := [_, _, _, _]) rfl rfl (.tree rfl (.froz rfl ?_ (.froz rfl ?_ (.tree rfl .nil)))) ⟨[_, _, _, _], rfl, ?_⟩
        · simp [digs]
        · simp [encTys_length]; omega
        · rw [plainT, if_pos (by assumption)]
          have : t.l.isEmpty = false := by cases hl : t.l <;> simp_all
          rw [this, encTy, hz]
          simp [digs, List.take_of_length_le, hz]
          exact ⟨rfl, List.take_of_length_le (by rw [encTys_length]; omega), rfl⟩
  · -- an enum
    refine Tri.regD [8] mixed (by kernel_rfl) ?_
    repeat' (first | refine TriL.nil ?_ | exact ⟨rfl, rfl, rfl⟩ | (apply D.v; rfl; rfl; rfl) | (apply U.load; rfl; rfl; trivial; rfl; rfl; rfl) | (apply U.fld; rfl; trivial; rfl; infer_instance; decide; rfl) | (apply U.len; rfl; trivial; rfl) | refine U.call1 rfl rfl (by assumption) rfl ?_ | fail)
    · (apply U.makeT; rfl; trivial; rfl; trivial; rfl; rfl; rfl; (first | omega | (simp; omega)); (first | omega | (simp; omega)); (first | omega | (simp; omega)); rfl)
      repeat' (first | refine TriL.nil ?_ | exact ⟨rfl, rfl, rfl⟩ | fail)
    repeat' (first | refine TriL.nil ?_ | exact ⟨rfl, rfl, rfl⟩ | (apply U.build; rfl; rfl; rfl; rfl; rfl) | fail)
    (apply D.s; rfl; rfl; rfl; rotate_left)
    repeat' (first | refine TriL.nil ?_ | refine D.nil ?_ | (apply U.storeS; rfl; rfl; rfl; rfl; rfl; rfl; rfl; rfl) | refine Tri.ret ?_ | exact ⟨rfl, rfl⟩ | fail)
    · refine ComesC.tree rfl rfl rfl rfl ?_
      rw [plainT, if_neg (by omega), if_pos h]
      show _ = T.agg [_, _, T.sl (false && _) (encTys (List.replicate t.names.length ty0)), _]
      rw [encTys_rep, Int.toNat_natCast, List.length_map]; rfl
    · exact fun _ => .nil
  · -- an option
    refine Tri.regDB [(0, .obj [.t (.v (.int .i64 t.kind)), .t (.sl t.nn (t.names.map tStr)), .t (.sl t.nl (encTys t.l)), .t (.v (.int .i64 t.r))])] [1, 4, 6] mixed (by kernel_rfl) (.of ⟨rfl, trivial⟩) ?_
    (apply D.f; rfl; rfl; rfl; intro hp_ n_)
    · (apply U.litT; rfl; rfl; rfl; rfl; rfl; rfl; rfl; rfl)
      repeat' (first | refine TriL.nil ?_ | exact ⟨rfl, rfl, rfl⟩ | fail)
    (apply D.e; rfl; rfl; rfl; rotate_left)
    · (apply U.make; rfl; trivial; rfl; trivial; rfl; rfl; rfl; omega; omega; decide; decide; rfl)
      repeat' (first | refine TriL.nil ?_ | exact ⟨rfl, rfl, rfl⟩ | fail)
    (apply D.f; rfl; rfl; rfl; intro hp_ n_)
    · repeat' (first | refine TriL.nil ?_ | exact ⟨rfl, rfl, rfl⟩ | (apply U.fld; rfl; trivial; rfl; infer_instance; decide; rfl) | fail)
    (apply D.fb; rfl; rfl; rfl; intro hp_ n_ hk_)
    · refine U.load rfl rfl trivial (hk_ 0 _ rfl) rfl rfl ?_
      repeat' (first | refine TriL.nil ?_ | exact ⟨rfl, rfl, rfl⟩ | fail)
    (apply D.e; rfl; rfl; rfl; rotate_left)
    · refine U.appOwn rfl rfl rfl rfl (SrcE.t rfl (leaves_all _)) ?_ ?_ rfl ?_
      · simp; omega
      · simp; omega
      repeat' (first | refine TriL.nil ?_ | exact ⟨rfl, rfl, rfl⟩ | fail)
    repeat' (first | refine TriL.nil ?_ | exact ⟨rfl, rfl, rfl⟩ | (apply D.v; rfl; rfl; rfl) | (apply U.build; rfl; rfl; rfl; rfl; rfl) | fail)
    (apply D.s; rfl; rfl; rfl; rotate_left)
    repeat' (first | refine TriL.nil ?_ | refine D.nil ?_ | (apply U.storeS; rfl; rfl; rfl; rfl; rfl; rfl; rfl; rfl) | refine Tri.ret ?_ | exact ⟨rfl, rfl⟩ | fail)
    · refine ComesC.of rfl rfl (ls' := [_, _, _, _]) rfl rfl (.tree rfl (.tree rfl (.froz rfl ?_ (.tree rfl .nil)))) ⟨[_, _, _, _], rfl, ?_⟩
      · simp; omega
      · rw [plainT, if_neg (by omega), if_neg (by omega), if_pos h]
        simp [encTy, encTys, tStr, nmNone, nmSome, ty0]
        exact List.take_of_length_le (by simp; omega)
    all_goals exact fun _ => .of ⟨rfl, trivial⟩
  · (apply U.litT; rfl; rfl; rfl; rfl; rfl; rfl; rfl; rfl)
    repeat' (first | refine TriL.nil ?_ | (apply U.load; rfl; rfl; trivial; rfl; rfl; rfl) | (apply U.fld; rfl; trivial; rfl; infer_instance; decide; rfl) | (apply U.storeS; rfl; rfl; rfl; rfl; rfl; rfl; rfl; rfl) | refine U.call1 rfl rfl (by assumption) rfl ?_ | refine Tri.ret ?_ | (apply U.build; rfl; rfl; rfl; rfl; rfl) | fail)
    refine ComesC.tree rfl rfl rfl rfl ?_
    rw [plainT, if_neg (by omega), if_neg (by omega), if_neg (by omega), if_pos h]; rfl
  · refine ComesC.tree rfl rfl rfl rfl ?_
    rw [plainT, if_neg (by omega), if_neg (by omega), if_neg (by omega), if_neg h, encTy_eta t]
end Go.Proofs.YtldelbknkkeniaaGreatDoor

/- Layer 13: what lay is, plainly. -/
namespace Go.Proofs.YtldelbknkkeniaaGreatDoor
open Go E
set_option maxRecDepth 100000
set_option maxHeartbeats 4000000
set_option linter.unusedVariables false
set_option linter.unusedSimpArgs false
def varEnd (f : Int) (v : Int × Int) : Int × Int := (upN (v.1 + upN f v.2) (max v.2 f), max v.2 f)
/-- By its kind: rc, vr: what its types are, one behind the other, one over the other. -/
def layK (k : Int) (nn nl : Nat) (rc vr : Int × Int) : Int × Int :=
  if k = 0 then (0, 1) else if k = 1 ∨ k = 2 ∨ k = 3 then (1, 1) else if k = 4 ∨ k = 5 then (2, 2) else if k = 8 ∨ k = 9 then (8, 8) else if k = 11 ∨ k = 12 then (8, 4)
  else if k = 19 then (bytesN (2 ^ nn), bytesN (2 ^ nn)) else if k = 13 ∨ k = 14 then (upN rc.1 rc.2, rc.2) else if k = 15 ∨ k = 18 then varEnd (bytesN nl) vr
  else if k = 16 then varEnd (bytesN nn) (0, 1) else if k = 17 then varEnd (bytesN (nl + 1 : Nat)) vr else (4, 4)
mutual
/-- A type's size and alignment. -/
def layN : Ty → Int × Int
  | .mk k _ ns _ l _ => layK k ns.length l.length (recF 0 1 l) (varF 0 1 l)
def recF : Int → Int → List Ty → Int × Int
  | s, a, [] => (s, a)
  | s, a, t :: ts => recF (upN s (layN t).2 + (layN t).1) (max a (layN t).2) ts
def varF : Int → Int → List Ty → Int × Int
  | s, a, [] => (s, a)
  | s, a, t :: ts => varF (max s (layN t).1) (max a (layN t).2) ts
end
/-- 1, 2, 4, 8. -/
def P2 (a : Int) : Prop := a = 1 ∨ a = 2 ∨ a = 4 ∨ a = 8
theorem P2.max {a b : Int} (h : P2 a) (k : P2 b) : P2 (max a b) := by
  rcases h with rfl | rfl | rfl | rfl <;> rcases k with rfl | rfl | rfl | rfl <;> simp [P2] <;> decide
theorem P2.pos {a : Int} (h : P2 a) : 1 ≤ a ∧ a ≤ 8 := by rcases h with rfl | rfl | rfl | rfl <;> decide
/-- How many types it is, as its owner counts. -/
def pw (t : Ty) : Int := if t.kind = 0 then 0 else partsN t
theorem pw_nonneg (t : Ty) : 0 ≤ pw t := by have := partsN_le t; unfold pw; split <;> omega
theorem partsGo_cons {n : Int} {t : Ty} {ts : List Ty} (h : n ≤ 500) : partsGo n (t :: ts) = partsGo (n + pw t) ts := by
  rw [partsGo, if_pos h, pw]
  by_cases e : t.kind = 0
  · simp [e]
  · simp [e]
theorem partsGo_pw {n : Int} {t : Ty} {ts : List Ty} (h : partsGo n (t :: ts) ≤ 500) : n + pw t ≤ 500 ∧ n ≤ 500 := by
  have h1 := partsGo_le n (t :: ts)
  have h2 := partsGo_cons (t := t) (ts := ts) (show n ≤ 500 by omega)
  have h3 := partsGo_le (n + pw t) ts
  omega
/-- Its size and alignment are small. -/
structure Sm (t : Ty) : Prop where
  al : P2 (layN t).2
  s0 : 0 ≤ (layN t).1
  s1 : (layN t).1 ≤ max 0 (16 * pw t - 8)
end Go.Proofs.YtldelbknkkeniaaGreatDoor

/- Layer 13, the code: lay. -/
namespace Go.Proofs.YtldelbknkkeniaaGreatDoor
open Go E
set_option maxRecDepth 100000
set_option maxHeartbeats 4000000
set_option linter.unusedVariables false
set_option linter.unusedSimpArgs false
attribute [local irreducible] Tri TriL TriO PO VO E.Pure DOb
def cplx (p : Int × Int) : T := .v (.complex .f64 (fl p.1) (fl p.2))
/-- May a type be somewhere? -/
def Vd (t : Ty) : Prop := noneT t = true ∨ ∃ n, deepB t n = true
structure Dim (t : Ty) : Prop where
  nm : t.names.length ≤ 64
  l : t.l.length ≤ 64
  fl : t.kind = 19 → t.names.length ≤ 32
theorem own_dim {t : Ty} (h : ownB t = true) : Dim t := by
  unfold ownB at h
  refine ⟨?_, ?_, fun hk => ?_⟩
  · (repeat' split at h) <;> simp [namesB_iff, -List.length_eq_zero_iff] at h <;> omega
  · (repeat' split at h) <;> simp [namesB_iff, -List.length_eq_zero_iff] at h <;> omega
  · rw [hk] at h
    (repeat' split at h) <;> simp [namesB_iff, -List.length_eq_zero_iff] at h <;> omega
theorem noneT_spec {t : Ty} (h : noneT t = true) : t.kind = 0 ∧ t.l = [] ∧ t.names = [] := by
  simp [noneT] at h; exact ⟨h.1.1.1, h.2, h.1.2⟩
theorem Vd.dim {t : Ty} (h : Vd t) : Dim t := by
  rcases h with h | ⟨n, h⟩
  · obtain ⟨h1, h2, h3⟩ := noneT_spec h
    exact ⟨by simp [h3], by simp [h2], fun hk => by omega⟩
  · exact own_dim (deepB_own h)
theorem deepsB_mem {k : Int} {n : Int} : ∀ {l : List Ty}, deepsB k l n = true → ∀ x ∈ l, noneT x = true ∨ deepB x (n + 1) = true
  | [], _, x, hx => by simp at hx
  | t :: ts, h, x, hx => by
    simp only [deepsB, Bool.and_eq_true, Bool.or_eq_true] at h
    rcases List.mem_cons.1 hx with rfl | hx
    · rcases h.1 with h1 | h1
      · exact .inl h1.2
      · exact .inr h1
    · exact deepsB_mem h.2 x hx
theorem Vd.el {t x : Ty} (h : Vd t) (hx : x ∈ t.l) : Vd x := by
  rcases h with h | ⟨n, h⟩
  · rw [(noneT_spec h).2.1] at hx; simp at hx
  · rw [deepB_eq] at h
    simp only [Bool.and_eq_true] at h
    rcases deepsB_mem h.2 x hx with h1 | h1
    · exact .inl h1
    · exact .inr ⟨_, h1⟩
theorem plainT_el {t x : Ty} {z : Bool} (hx : x ∈ (plainT z t).l) : x = ty0 ∨ x ∈ t.l := by
  unfold plainT at hx
  split at hx
  · exact .inr hx
  · split at hx
    · exact .inl (List.eq_of_mem_replicate hx)
    · split at hx
      · exact List.mem_cons.1 hx
      · split at hx <;> exact .inr hx
theorem partsGo_plain (t : Ty) (z : Bool) (hk : t.kind ≠ 16) : partsGo 1 (plainT z t).l = partsGo 1 t.l := by
  unfold plainT
  split
  · rfl
  · split
    · show partsGo 1 (ty0 :: t.l) = _
      rw [partsGo_cons (by omega)]; rfl
    · split <;> rfl
theorem partsGo_rep (n : Nat) : partsGo 1 (List.replicate n ty0) = 1 := by
  induction n with
  | zero => rfl
  | succ n ih => rw [List.replicate_succ, partsGo_cons (by omega)]; exact ih
theorem plainT_kind (t : Ty) (z : Bool) : (plainT z t).kind ≠ 14 ∧ (plainT z t).kind ≠ 16 ∧ (plainT z t).kind ≠ 17 ∧ (plainT z t).kind ≠ 18 := by
  unfold plainT
  split
  · simp [Ty.kind]
  · split
    · simp [Ty.kind]
    · split
      · simp [Ty.kind]
      · split
        · simp [Ty.kind]
        · exact ⟨by assumption, by assumption, by assumption, by assumption⟩
theorem plainT_len {t : Ty} {z : Bool} (h : Dim t) : (plainT z t).l.length ≤ 65 ∧ ((plainT z t).kind = 19 → (plainT z t).names.length ≤ 32) := by
  have h1 := h.nm
  have h2 := h.l
  unfold plainT
  split
  · exact ⟨by show t.l.length ≤ 65; omega, fun e => by simp [Ty.kind] at e⟩
  · split
    · exact ⟨by show (List.replicate t.names.length ty0).length ≤ 65; rw [List.length_replicate]; omega, fun e => by simp [Ty.kind] at e⟩
    · split
      · exact ⟨by show (ty0 :: t.l).length ≤ 65; rw [List.length_cons]; omega, fun e => by simp [Ty.kind] at e⟩
      · split
        · exact ⟨by show t.l.length ≤ 65; omega, fun e => by simp [Ty.kind] at e⟩
        · exact ⟨by omega, h.fl⟩
theorem pw_el {t x : Ty} (h : partsGo 1 t.l ≤ 500) (hx : x ∈ t.l) : x.kind ≠ 0 → partsN x ≤ 500 := by
  have key : ∀ (l : List Ty) (n : Int), 1 ≤ n → partsGo n l ≤ 500 → ∀ x ∈ l, x.kind ≠ 0 → partsN x ≤ 500 := by
    intro l
    induction l with
    | nil => intro n _ _ x hx; simp at hx
    | cons y l ih =>
      intro n hn hp x hx hk
      obtain ⟨h1, h2⟩ := partsGo_pw hp
      rw [partsGo_cons h2] at hp
      rcases List.mem_cons.1 hx with rfl | hx
      · rw [pw, if_neg hk] at h1; omega
      · exact ih _ (by have := pw_nonneg y; omega) hp x hx hk
  exact key t.l 1 (by omega) h x hx
end Go.Proofs.YtldelbknkkeniaaGreatDoor

/- Layer 13, the code: core types, Size, Align. -/
namespace Go.Proofs.YtldelbknkkeniaaGreatDoor
open Go E
set_option maxRecDepth 100000
set_option maxHeartbeats 4000000
set_option linter.unusedVariables false
set_option linter.unusedSimpArgs false
attribute [local irreducible] Tri TriL TriO PO VO E.Pure DOb
/-- A list of whole numbers; nil, if there are none. -/
def iT (l : List Int) : T := .sl l.isEmpty (l.map tInt)
def zipJ : List Int → List Int → List Int
  | [], ys => ys
  | x :: xs, [] => x :: xs
  | x :: xs, y :: ys => joinN x y :: zipJ xs ys
theorem zipJ_nil (l : List Int) : zipJ l [] = l := by cases l <;> rfl
def flK (k : Int) (row js : List Int) : List Int :=
  if k = 0 then [] else if k = 8 ∨ k = 9 then [126] else if k = 11 ∨ k = 12 then [127, 127] else if k = 13 ∨ k = 14 then row else if k = 15 ∨ k = 17 ∨ k = 18 then 127 :: js else [127]
mutual
/-- A type's core types. -/
def flN : Ty → List Int
  | .mk k _ _ _ l _ => flK k (rowN l) (joinsN [] l)
def rowN : List Ty → List Int
  | [] => []
  | t :: ts => flN t ++ rowN ts
def joinsN : List Int → List Ty → List Int
  | m, [] => m
  | m, t :: ts => joinsN (zipJ m (flN t)) ts
end
theorem flN_eq (t : Ty) : flN t = flK t.kind (rowN t.l) (joinsN [] t.l) := by cases t; rfl
theorem flN_zero {t : Ty} (h : t.kind = 0) : flN t = [] := by rw [flN_eq, h]; rfl
theorem joinsN_rep (n : Nat) : joinsN [] (List.replicate n ty0) = [] := by
  induction n with
  | zero => rfl
  | succ n ih => rw [List.replicate_succ, joinsN]; exact ih
theorem flN_plain (t : Ty) (z : Bool) : flN (plainT z t) = flN t := by
  rw [plainT]
  split
  · rename_i h; rw [flN_eq t, h]; rfl
  · split
    · rename_i h; rw [flN_eq t, h, flN_eq]
      show 127 :: joinsN [] (List.replicate t.names.length ty0) = _
      rw [joinsN_rep]; rfl
    · split
      · rename_i h; rw [flN_eq t, h]; rfl
      · split
        · rename_i h; rw [flN_eq t, h]; rfl
        · rfl
theorem zipJ_len (a b : List Int) : (zipJ a b).length = max a.length b.length := by
  induction a generalizing b with
  | nil => simp [zipJ]
  | cons x a ih =>
    cases b with
    | nil => simp [zipJ]
    | cons y b => simp [zipJ, ih]
mutual
theorem flN_len : ∀ t : Ty, (t.kind ≠ 0 → partsN t ≤ 500) → ((flN t).length : Int) ≤ 2 * pw t
  | .mk k nn ns nl l r, h => by
    by_cases hk : k = 0
    · rw [flN_zero (t := .mk k nn ns nl l r) hk]; have := pw_nonneg (.mk k nn ns nl l r); simp; omega
    · have hp : partsGo 1 l ≤ 500 := by have := h hk; rwa [partsN] at this
      have hpw : pw (.mk k nn ns nl l r) = partsGo 1 l := by
        show (if k = 0 then 0 else partsN _) = _
        rw [if_neg hk, partsN]
      have h1 := rowN_len l 1 (by omega) hp
      have h2 := joinsN_len l [] 1 (by omega) (by simp) hp
      have h3 := partsGo_le 1 l
      rw [hpw, flN, flK, if_neg hk]
      split
      · simp; omega
      split
      · simp; omega
      split
      · omega
      split
      · simp only [List.length_cons]; omega
      · simp; omega
theorem rowN_len : ∀ (l : List Ty) (n : Int), 1 ≤ n → partsGo n l ≤ 500 → ((rowN l).length : Int) ≤ 2 * (partsGo n l - n)
  | [], n, _, _ => by simp [rowN, partsGo]
  | t :: ts, n, hn, hp => by
    obtain ⟨h1, h2⟩ := partsGo_pw hp
    have h3 := partsGo_cons (t := t) (ts := ts) h2
    rw [h3] at hp ⊢
    have h4 := flN_len t (fun hk => by rw [pw, if_neg hk] at h1; omega)
    have h5 := rowN_len ts (n + pw t) (by have := pw_nonneg t; omega) hp
    rw [rowN, List.length_append]; omega
theorem joinsN_len : ∀ (l : List Ty) (m : List Int) (n : Int), 1 ≤ n → (m.length : Int) ≤ 2 * (n - 1) → partsGo n l ≤ 500 → ((joinsN m l).length : Int) ≤ 2 * (partsGo n l - 1)
  | [], m, n, _, hm, _ => by simpa [joinsN, partsGo] using hm
  | t :: ts, m, n, hn, hm, hp => by
    obtain ⟨h1, h2⟩ := partsGo_pw hp
    have h3 := partsGo_cons (t := t) (ts := ts) h2
    rw [h3] at hp ⊢
    have h4 := flN_len t (fun hk => by rw [pw, if_neg hk] at h1; omega)
    have h5 := pw_nonneg t
    rw [joinsN]
    exact joinsN_len ts _ (n + pw t) (by omega) (by rw [zipJ_len]; omega) hp
end
end Go.Proofs.YtldelbknkkeniaaGreatDoor

/- Layer 13, the code: flat. -/
namespace Go.Proofs.YtldelbknkkeniaaGreatDoor
open Go E
set_option maxRecDepth 100000
set_option maxHeartbeats 4000000
set_option linter.unusedVariables false
set_option linter.unusedSimpArgs false
attribute [local irreducible] Tri TriL TriO PO VO E.Pure DOb
theorem leaves_int (l : List Int) : ((l.map tInt).all fun x => x.leaves.length == 1) = true := by simp [tInt, T.leaves]
theorem joinsN_ge : ∀ (m : List Int) (l : List Ty), m.length ≤ (joinsN m l).length
  | m, [] => Nat.le_refl _
  | m, t :: ts => by have h := joinsN_ge (zipJ m (flN t)) ts; rw [zipJ_len] at h; rw [joinsN]; omega
theorem flat_core (t x : Ty) (hpl : E.Pure Tryz.prog 72 [encTy t] (.one (.t (encTy x)))) (h14 : x.kind ≠ 14 ∧ x.kind ≠ 16 ∧ x.kind ≠ 17 ∧ x.kind ≠ 18) (hl : x.l.length ≤ 65)
    (hel : ∀ (i : Nat) (h : i < x.l.length), E.Pure Tryz.prog 61 [agTy x.l[i]] (.one (.t (iT (flN x.l[i]))))) (hfl : ∀ y ∈ x.l, (flN y).length ≤ 1000) (hrow : (rowN x.l).length ≤ 1000000) (hjs : (joinsN [] x.l).length ≤ 1000) :
    E.Pure Tryz.prog 61 [encTy t] (.one (.t (iT (flK x.kind (rowN x.l) (joinsN [] x.l))))) := by
  have hlen := encTys_length x.l
  refine Pure.of1 Tryz.func61 rfl rfl (Nat.le_of_ble_eq_true rfl) rfl ?_
  rw [encTy_eta x] at hpl
  rw [encTy_eta t] at hpl ⊢
  repeat' (first | refine Tri.seq ?_ | refine Tri.reg ?_ | refine TriL.nil ?_ | (apply U.moveT; rfl; trivial; rfl) | (apply U.assignT; rfl; trivial; rfl) | (apply U.load; rfl; rfl; trivial; rfl; rfl; rfl) | (apply U.fld; rfl; trivial; rfl; infer_instance; decide; rfl) | (apply U.bin; rfl; trivial; rfl; trivial; rfl; rfl) | (apply U.len; rfl; trivial; rfl) | (apply U.loadS; rfl; rfl; trivial; rfl; rfl; rfl; rfl; rfl) | (apply U.boxA; rfl; rfl) | (apply U.storeS; rfl; rfl; rfl; rfl; rfl; rfl; rfl; rfl) | refine U.call1 rfl rfl (by assumption) rfl ?_ | refine Tri.skip ?_ | refine Tri.block ?_ | refine Tri.ret ?_ | (refine Tri.cond rfl (fun h => ?_) (fun h => ?_) <;> (try simp at h) <;> (try contradiction)) | fail)
  · refine Comes1.ret rfl ?_
    rw [show x.kind = 0 by assumption]; rfl
  · (apply U.litT; rfl; rfl; rfl; rfl; rfl; rfl; rfl; rfl)
    repeat' (first | refine TriL.nil ?_ | (apply U.assignT; rfl; trivial; rfl) | refine Tri.ret ?_ | fail)
    refine Comes1.ret rfl ?_
    rw [show x.kind = 8 by assumption]; rfl
  · (apply U.litT; rfl; rfl; rfl; rfl; rfl; rfl; rfl; rfl)
    repeat' (first | refine TriL.nil ?_ | (apply U.assignT; rfl; trivial; rfl) | refine Tri.ret ?_ | fail)
    refine Comes1.ret rfl ?_
    rw [show x.kind = 9 by assumption]; rfl
  · (apply U.litT; rfl; rfl; rfl; rfl; rfl; rfl; rfl; rfl)
    repeat' (first | refine TriL.nil ?_ | (apply U.assignT; rfl; trivial; rfl) | refine Tri.ret ?_ | fail)
    refine Comes1.ret rfl ?_
    rw [show x.kind = 11 by assumption]; rfl
  · (apply U.litT; rfl; rfl; rfl; rfl; rfl; rfl; rfl; rfl)
    repeat' (first | refine TriL.nil ?_ | (apply U.assignT; rfl; trivial; rfl) | refine Tri.ret ?_ | fail)
    refine Comes1.ret rfl ?_
    rw [show x.kind = 12 by assumption]; rfl
  · -- a record
    refine Tri.loopL (α := Nat × List Int) (fun a => match a.2 with
        | [] => ⟨[(30, .t (tInt a.1)), (29, .t (tInt x.l.length)), (28, .t (.sl x.nl (encTys x.l))), (3, .t (.sl true []))], Tryz.f61.ntmps, [], 0, 1⟩
        | y :: ys => ⟨[(30, .t (tInt a.1)), (29, .t (tInt x.l.length)), (28, .t (.sl x.nl (encTys x.l))), (3, .ref 0 1 0 (ys.length + 1) (ys.length + 1))], Tryz.f61.ntmps, [(0, .row 1 ((y :: ys).map tInt) false)], 0, 1⟩)
      (fun a => a.1 ≤ x.l.length ∧ rowN x.l = a.2 ++ rowN (x.l.drop a.1)) (fun a => x.l.length - a.1) (0, []) ?_ ?_ ?_
    · exact ⟨Nat.zero_le _, rfl⟩
    · refine Sub.less (Sub.of rfl rfl ⟨rfl, ?_, rfl, rfl, trivial⟩ trivial)
      rw [← hlen]; rfl
    · rintro ⟨i, _ | ⟨y, ys⟩⟩ ⟨hi, hr⟩
      · dsimp only at hi hr ⊢
        repeat' (first | refine Tri.seq ?_ | refine Tri.reg ?_ | refine TriL.nil ?_ | (apply U.moveT; rfl; trivial; rfl) | (apply U.assignT; rfl; trivial; rfl) | (apply U.bin; rfl; trivial; rfl; trivial; rfl; rfl) | refine Tri.skip ?_ | refine Tri.block ?_ | refine Tri.exit ?_ | refine Tri.ret ?_ | (refine Tri.cond rfl (fun h => ?_) (fun h => ?_) <;> (try simp at h) <;> (try contradiction)) | fail)
        · have hlt : i < x.l.length := by omega
          have hget := get_ty hlt
          have hel := hel i hlt
          have hd := List.drop_eq_getElem_cons hlt
          have hfl := hfl _ (List.getElem_mem hlt)
          rw [hd, rowN] at hr
          cases hy : flN x.l[i] with
          | nil =>
            rw [hy] at hel hr
            repeat' (first | refine Tri.reg ?_ | refine TriL.nil ?_ | (apply U.moveT; rfl; trivial; rfl) | (apply U.loadES; rfl; rfl; trivial; rfl; rfl; rfl) | (apply U.loadS; rfl; rfl; trivial; rfl; rfl; rfl; rfl; rfl) | (apply U.idx; rfl; trivial; rfl; trivial; exact fun _ => (by omega); exact fun _ => (by assumption); exact fun _ => rfl; rfl) | (apply U.alloc; rfl; rfl; rfl; rfl) | (apply U.storeS; rfl; rfl; rfl; rfl; rfl; rfl; rfl; rfl) | refine U.call1 rfl rfl (by assumption) rfl ?_ | fail)
            refine U.appNil0 rfl (SrcE.t (n := true) rfl rfl) rfl ?_
            repeat' (first | refine Tri.reg ?_ | refine TriL.nil ?_ | (apply U.moveT; rfl; trivial; rfl) | (apply U.assignT; rfl; trivial; rfl) | (apply U.add; rfl; trivial; rfl; trivial; exact fun _ => wrap_i64 (by omega) (by omega); rfl) | fail)
            exact ⟨(i + 1, []), ⟨hlt, hr⟩, by dsimp only; omega, Sub.less (Sub.ofn (by decide) rfl ⟨rfl, rfl, rfl, rfl, trivial⟩ trivial rfl rfl)⟩
          | cons z zs =>
            rw [hy] at hel hr hfl
            repeat' (first | refine Tri.reg ?_ | refine TriL.nil ?_ | (apply U.moveT; rfl; trivial; rfl) | (apply U.loadES; rfl; rfl; trivial; rfl; rfl; rfl) | (apply U.loadS; rfl; rfl; trivial; rfl; rfl; rfl; rfl; rfl) | (apply U.idx; rfl; trivial; rfl; trivial; exact fun _ => (by omega); exact fun _ => (by assumption); exact fun _ => rfl; rfl) | (apply U.alloc; rfl; rfl; rfl; rfl) | (apply U.storeS; rfl; rfl; rfl; rfl; rfl; rfl; rfl; rfl) | refine U.call1 rfl rfl (by assumption) rfl ?_ | fail)
            refine U.appNil rfl (SrcE.t (n := false) rfl (leaves_int (z :: zs))) (by simp) (by simp at hfl ⊢; omega) (by simp at hfl ⊢; omega) rfl ?_
            repeat' (first | refine Tri.reg ?_ | refine TriL.nil ?_ | (apply U.moveT; rfl; trivial; rfl) | (apply U.assignR; rfl; trivial; rfl) | (apply U.add; rfl; trivial; rfl; trivial; exact fun _ => wrap_i64 (by omega) (by omega); rfl) | fail)
            refine ⟨(i + 1, z :: zs), ⟨hlt, hr⟩, by dsimp only; omega, Less.ren (fun b => if b = 0 then 2 else b) rfl rfl ⟨rfl, rfl, rfl, ?_, trivial⟩ ⟨rfl, trivial⟩ rfl rfl rfl⟩
            refine congrArg some ?_
            show PV.ref 2 1 0 _ _ = PV.ref 2 1 0 _ _
            simp
        · refine Comes1.ret rfl ?_
          have : i = x.l.length := by omega
          subst this
          rw [List.drop_length, rowN] at hr
          rw [show x.kind = 13 by assumption, hr]; rfl
      · dsimp only at hi hr ⊢
        repeat' (first | refine Tri.seq ?_ | refine Tri.reg ?_ | refine TriL.nil ?_ | (apply U.moveR; rfl; trivial; rfl) | (apply U.assignR; rfl; trivial; rfl) | (apply U.bin; rfl; trivial; rfl; trivial; rfl; rfl) | refine Tri.skip ?_ | refine Tri.block ?_ | refine Tri.exit ?_ | refine Tri.ret ?_ | (refine Tri.cond rfl (fun h => ?_) (fun h => ?_) <;> (try simp at h) <;> (try contradiction)) | fail)
        · have hlt : i < x.l.length := by omega
          have hget := get_ty hlt
          have hel := hel i hlt
          have hd := List.drop_eq_getElem_cons hlt
          have hfl := hfl _ (List.getElem_mem hlt)
          rw [hd, rowN] at hr
          have hbd := congrArg List.length hr
          simp only [List.length_append, List.length_cons] at hbd
          repeat' (first | refine Tri.reg ?_ | refine TriL.nil ?_ | (apply U.moveR; rfl; trivial; rfl) | (apply U.loadES; rfl; rfl; trivial; rfl; rfl; rfl) | (apply U.loadS; rfl; rfl; trivial; rfl; rfl; rfl; rfl; rfl) | (apply U.idx; rfl; trivial; rfl; trivial; exact fun _ => (by omega); exact fun _ => (by assumption); exact fun _ => rfl; rfl) | (apply U.alloc; rfl; rfl; rfl; rfl) | (apply U.storeS; rfl; rfl; rfl; rfl; rfl; rfl; rfl; rfl) | refine U.call1 rfl rfl (by assumption) rfl ?_ | fail)
          refine U.appOwn rfl rfl (by simp) (by simp) (SrcE.t rfl (leaves_int _)) (by simp; omega) (by simp; omega) rfl ?_
          repeat' (first | refine Tri.reg ?_ | refine TriL.nil ?_ | (apply U.moveT; rfl; trivial; rfl) | (apply U.assignR; rfl; trivial; rfl) | (apply U.add; rfl; trivial; rfl; trivial; exact fun _ => wrap_i64 (by omega) (by omega); rfl) | fail)
          refine ⟨(i + 1, y :: (ys ++ flN x.l[i])), ⟨hlt, by rw [hr]; simp⟩, by dsimp only; omega, Less.ren (fun b => if b = 0 then 2 else b) rfl rfl ⟨rfl, rfl, rfl, ?_, trivial⟩ ⟨?_, trivial⟩ rfl rfl rfl⟩
          · refine congrArg some ?_
            show PV.ref 2 1 0 _ _ = PV.ref 2 1 0 _ _
            simp; omega
          · refine congrArg some ?_
            show Blk.row 1 _ false = Blk.row 1 _ false
            simp
        · refine Comes1.retF rfl rfl (by simp) ?_
          have : i = x.l.length := by omega
          subst this
          rw [List.drop_length, rowN] at hr
          rw [show x.kind = 13 by assumption, hr]
          simp [flK, iT]
          exact List.take_of_length_le (by simp)
  · -- a variant
    (apply U.lit; rfl; rfl; rfl; rfl; rfl; rfl; rfl; rfl)
    repeat' (first | refine Tri.seq ?_ | refine Tri.reg ?_ | refine TriL.nil ?_ | (apply U.moveT; rfl; trivial; rfl) | (apply U.assignR; rfl; trivial; rfl) | (apply U.load; rfl; rfl; trivial; rfl; rfl; rfl) | (apply U.fld; rfl; trivial; rfl; infer_instance; decide; rfl) | (apply U.len; rfl; trivial; rfl) | refine Tri.block ?_ | fail)
    refine Tri.loopL (α := Nat × List Int) (fun a => ⟨[(46, .t (tInt a.1)), (45, .t (tInt x.l.length)), (44, .t (.sl x.nl (encTys x.l))), (6, .ref 0 1 0 (a.2.length + 1) (a.2.length + 1))], Tryz.f61.ntmps, [(0, .row 1 ((127 :: a.2).map tInt) false)], 0, 1⟩)
      (fun a => a.1 ≤ x.l.length ∧ joinsN [] x.l = joinsN a.2 (x.l.drop a.1)) (fun a => x.l.length - a.1) (0, []) ?_ ?_ ?_
    · exact ⟨Nat.zero_le _, rfl⟩
    · refine Less.ren (fun b => if b = 0 then 1 else b) rfl rfl ⟨rfl, ?_, rfl, rfl, trivial⟩ ⟨rfl, trivial⟩ rfl rfl rfl
      rw [← hlen]; rfl
    · rintro ⟨i, m⟩ ⟨hi, hr⟩
      dsimp only at hi hr ⊢
      repeat' (first | refine Tri.seq ?_ | refine Tri.reg ?_ | refine TriL.nil ?_ | (apply U.moveR; rfl; trivial; rfl) | (apply U.assignR; rfl; trivial; rfl) | (apply U.bin; rfl; trivial; rfl; trivial; rfl; rfl) | refine Tri.skip ?_ | refine Tri.block ?_ | refine Tri.exit ?_ | refine Tri.ret ?_ | (refine Tri.cond rfl (fun h => ?_) (fun h => ?_) <;> (try simp at h) <;> (try contradiction)) | fail)
      · have hlt : i < x.l.length := by omega
        have hget := get_ty hlt
        have hel := hel i hlt
        have hd := List.drop_eq_getElem_cons hlt
        have hfl := hfl _ (List.getElem_mem hlt)
        rw [hd, joinsN] at hr
        generalize hys : flN x.l[i] = ys at *
        have hm := joinsN_ge (zipJ m ys) (x.l.drop (i + 1))
        rw [← hr] at hm
        have hz := zipJ_len m ys
        have hlen3 : (ys.map tInt).length = ys.length := by simp
        repeat' (first | refine Tri.seq ?_ | refine Tri.reg ?_ | refine TriL.nil ?_ | (apply U.moveT; rfl; trivial; rfl) | (apply U.len; rfl; trivial; rfl) | (apply U.loadES; rfl; rfl; trivial; rfl; rfl; rfl) | (apply U.loadS; rfl; rfl; trivial; rfl; rfl; rfl; rfl; rfl) | (apply U.idx; rfl; trivial; rfl; trivial; exact fun _ => (by omega); exact fun _ => (by assumption); exact fun _ => rfl; rfl) | (apply U.alloc; rfl; rfl; rfl; rfl) | (apply U.storeS; rfl; rfl; rfl; rfl; rfl; rfl; rfl; rfl) | refine U.call1 rfl rfl (by assumption) rfl ?_ | refine Tri.block ?_ | fail)
        refine Tri.loopL (α := Nat × List Int × List Int) (fun a => ⟨[(53, .t (tInt a.1)), (52, .t (tInt ys.length)), (51, .t (iT ys)), (46, .t (tInt i)), (45, .t (tInt x.l.length)), (44, .t (.sl x.nl (encTys x.l))), (6, .ref 0 1 0 (a.2.1.length + a.2.2.length + 1) (a.2.1.length + a.2.2.length + 1))], Tryz.f61.ntmps, [(0, .row 1 ((127 :: (a.2.1 ++ a.2.2)).map tInt) false)], 0, 1⟩)
          (fun a => a.1 ≤ ys.length ∧ a.2.1.length = a.1 ∧ zipJ m ys = a.2.1 ++ zipJ a.2.2 (ys.drop a.1)) (fun a => ys.length - a.1) (0, [], m) ?_ ?_ ?_
        · exact ⟨Nat.zero_le _, rfl, rfl⟩
        · refine Sub.less (Sub.ofn (by decide) rfl ⟨rfl, ?_, rfl, rfl, rfl, rfl, ?_, trivial⟩ ⟨rfl, trivial⟩ rfl rfl)
          · rw [← hlen3]; rfl
          · refine congrArg some ?_
            show PV.ref 0 1 0 _ _ = PV.ref 0 1 0 _ _
            simp
        · rintro ⟨j, pre, rest⟩ ⟨hj, hpl, hq⟩
          dsimp only at hj hpl hq ⊢
          have hql := congrArg List.length hq
          rw [List.length_append, zipJ_len] at hql
          have hout : ∀ rs : List Int, ys.length ≤ j → zipJ m ys = pre ++ zipJ rs (ys.drop j) → zipJ m ys = pre ++ rs := fun rs h1 h2 => by
            rw [List.drop_eq_nil_of_le (by omega), zipJ_nil] at h2; exact h2
          rcases rest with _ | ⟨r, rest⟩
          · repeat' (first | refine Tri.seq ?_ | refine Tri.reg ?_ | refine TriL.nil ?_ | (apply U.moveT; rfl; trivial; rfl) | (apply U.add; rfl; trivial; rfl; trivial; exact fun _ => wrap_i64 (by omega) (by omega); rfl) | (apply U.bin; rfl; trivial; rfl; trivial; rfl; rfl) | refine Tri.skip ?_ | refine Tri.block ?_ | refine Tri.exit ?_ | (refine Tri.cond rfl (fun h => ?_) (fun h => ?_) <;> (try simp at h) <;> (try contradiction)) | fail)
            · have hjl : j < ys.length := by omega
              have hgi : (ys.map tInt)[((j : Nat) : Int).toNat]? = some (tInt ys[j]) := by simp [hjl]
              have hdj := List.drop_eq_getElem_cons hjl
              repeat' (first | refine Tri.seq ?_ | refine Tri.reg ?_ | refine TriL.nil ?_ | (apply U.moveT; rfl; trivial; rfl) | (apply U.assignT; rfl; trivial; rfl) | (apply U.moveR; rfl; trivial; rfl) | (apply U.add; rfl; trivial; rfl; trivial; exact fun _ => wrap_i64 (by omega) (by omega); rfl) | (apply U.bin; rfl; trivial; rfl; trivial; rfl; rfl) | (apply U.lenR; rfl; trivial; rfl) | (apply U.loadE; rfl; rfl; trivial; rfl; rfl) | (apply U.idx; rfl; trivial; rfl; trivial; exact fun _ => (by omega); exact fun _ => (by assumption); exact fun _ => rfl; rfl) | (apply U.idxR; rfl; trivial; rfl; trivial; exact fun _ => (by omega); exact fun _ => (by omega); rfl) | (refine Tri.cond rfl (fun h => ?_) (fun h => ?_) <;> (try simp at h) <;> (try contradiction)) | fail)
              · exfalso; omega
              · (apply U.litT; rfl; rfl; rfl; rfl; rfl; rfl; rfl; rfl)
                skip
                refine U.appOwn rfl rfl (by simp) (by simp) (SrcE.t rfl (leaves_int [ys[j]])) (by simp; omega) (by simp; omega) rfl ?_
                repeat' (first | refine Tri.reg ?_ | refine TriL.nil ?_ | (apply U.moveT; rfl; trivial; rfl) | (apply U.assignR; rfl; trivial; rfl) | (apply U.add; rfl; trivial; rfl; trivial; exact fun _ => wrap_i64 (by omega) (by omega); rfl) | fail)
                refine ⟨(j + 1, pre ++ [ys[j]], []), ⟨hjl, by simp [hpl], by rw [hq, hdj]; simp [zipJ]⟩, by dsimp only; omega, Less.ren (fun b => if b = 0 then 1 else b) rfl rfl ⟨rfl, rfl, rfl, rfl, rfl, rfl, ?_, trivial⟩ ⟨?_, trivial⟩ rfl rfl rfl⟩
                · refine congrArg some ?_
                  show PV.ref 1 1 0 _ _ = PV.ref 1 1 0 _ _
                  simp
                · refine congrArg some ?_
                  show Blk.row 1 _ false = Blk.row 1 _ false
                  simp
            · refine ⟨(i + 1, pre), ⟨hlt, ?_⟩, by dsimp only; omega, Sub.less (Sub.of rfl rfl ⟨rfl, rfl, rfl, rfl, trivial⟩ ⟨?_, trivial⟩)⟩
              · rw [hr, hout [] (by omega) hq, List.append_nil]
              · refine congrArg some ?_
                show Blk.row 1 _ false = Blk.row 1 _ false
                simp
          · repeat' (first | refine Tri.seq ?_ | refine Tri.reg ?_ | refine TriL.nil ?_ | (apply U.moveT; rfl; trivial; rfl) | (apply U.add; rfl; trivial; rfl; trivial; exact fun _ => wrap_i64 (by omega) (by omega); rfl) | (apply U.bin; rfl; trivial; rfl; trivial; rfl; rfl) | refine Tri.skip ?_ | refine Tri.block ?_ | refine Tri.exit ?_ | (refine Tri.cond rfl (fun h => ?_) (fun h => ?_) <;> (try simp at h) <;> (try contradiction)) | fail)
            · have hjl : j < ys.length := by omega
              have hgi : (ys.map tInt)[((j : Nat) : Int).toNat]? = some (tInt ys[j]) := by simp [hjl]
              have hdj := List.drop_eq_getElem_cons hjl
              have hjoin := join_p r ys[j]
              have hrl : (r :: rest).length = rest.length + 1 := rfl
              have he : 0 + ((j : Int) + 1).toNat = j + 1 := by omega
              have hrow : ((127 :: (pre ++ r :: rest)).map tInt)[0 + ((j : Int) + 1).toNat]? = some (tInt r) := by
                rw [he]; simp [List.getElem?_append_right, hpl]
              repeat' (first | refine Tri.seq ?_ | refine Tri.reg ?_ | refine TriL.nil ?_ | (apply U.moveT; rfl; trivial; rfl) | (apply U.assignT; rfl; trivial; rfl) | (apply U.moveR; rfl; trivial; rfl) | (apply U.add; rfl; trivial; rfl; trivial; exact fun _ => wrap_i64 (by omega) (by omega); rfl) | (apply U.bin; rfl; trivial; rfl; trivial; rfl; rfl) | (apply U.lenR; rfl; trivial; rfl) | (apply U.loadE; rfl; rfl; trivial; rfl; rfl) | (apply U.idx; rfl; trivial; rfl; trivial; exact fun _ => (by omega); exact fun _ => (by assumption); exact fun _ => rfl; rfl) | (apply U.idxR; rfl; trivial; rfl; trivial; exact fun _ => (by omega); exact fun _ => (by omega); rfl) | (refine Tri.cond rfl (fun h => ?_) (fun h => ?_) <;> (try simp at h) <;> (try contradiction)) | fail)
              · refine U.loadR rfl rfl trivial rfl hrow rfl rfl ?_
                repeat' (first | (apply U.moveT; rfl; trivial; rfl) | refine U.call2 rfl rfl rfl (by assumption) rfl ?_ | (apply U.idxR; rfl; trivial; rfl; trivial; exact fun _ => (by omega); exact fun _ => (by omega); rfl) | fail)
                refine U.storeR rfl rfl rfl rfl rfl (by rw [he]; simp; omega) ?_
                repeat' (first | refine Tri.reg ?_ | refine TriL.nil ?_ | (apply U.moveT; rfl; trivial; rfl) | (apply U.add; rfl; trivial; rfl; trivial; exact fun _ => wrap_i64 (by omega) (by omega); rfl) | fail)
                refine ⟨(j + 1, pre ++ [joinN r ys[j]], rest), ⟨hjl, by simp [hpl], by rw [hq, hdj]; simp [zipJ]⟩, by dsimp only; omega, Sub.less (Sub.of rfl rfl ⟨rfl, rfl, rfl, rfl, rfl, rfl, ?_, trivial⟩ ⟨?_, trivial⟩)⟩
                · refine congrArg some ?_
                  show PV.ref 0 1 0 _ _ = PV.ref 0 1 0 _ _
                  simp; omega
                · refine congrArg some ?_
                  show Blk.row 1 _ false = Blk.row 1 _ false
                  rw [he]
                  simp [List.set_append_right, hpl]
              · exfalso; simp at *; omega
            · refine ⟨(i + 1, pre ++ r :: rest), ⟨hlt, ?_⟩, by dsimp only; omega, Sub.less (Sub.of rfl rfl ⟨rfl, rfl, rfl, ?_, trivial⟩ ⟨rfl, trivial⟩)⟩
              · rw [hr, hout (r :: rest) (by omega) hq]
              · refine congrArg some ?_
                show PV.ref 0 1 0 _ _ = PV.ref 0 1 0 _ _
                simp
      · refine Comes1.retF rfl rfl (by simp) ?_
        have : i = x.l.length := by omega
        subst this
        rw [List.drop_length, joinsN] at hr
        rw [show x.kind = 15 by assumption, hr]
        simp [flK, iT]
        exact List.take_of_length_le (by simp)
  · (apply U.litT; rfl; rfl; rfl; rfl; rfl; rfl; rfl; rfl)
    repeat' (first | refine TriL.nil ?_ | (apply U.assignT; rfl; trivial; rfl) | refine Tri.ret ?_ | fail)
    refine Comes1.ret rfl ?_
    rw [flK, if_neg (by omega), if_neg (by omega), if_neg (by omega), if_neg (by omega), if_neg (by omega)]; rfl
end Go.Proofs.YtldelbknkkeniaaGreatDoor

/- Layer 13, the code: Flat, Places; the reference's Same. -/
namespace Go.Proofs.YtldelbknkkeniaaGreatDoor
open Go E
set_option maxRecDepth 100000
set_option maxHeartbeats 4000000
set_option linter.unusedVariables false
set_option linter.unusedSimpArgs false
attribute [local irreducible] Tri TriL TriO PO VO E.Pure DOb
/-- What is known of a type that may be somewhere, as Plain. -/
structure Pl (t : Ty) : Prop where
  dim : Dim t
  len : (plainT false t).l.length ≤ 65
  sum : partsGo 1 t.l ≤ 500
  sum2 : partsGo 1 (plainT false t).l ≤ 500
  el : ∀ x ∈ t.l, Vd x ∧ (x.kind ≠ 0 → partsN x ≤ 500)
theorem Vd.pl {t : Ty} (hv : Vd t) (hp : t.kind ≠ 0 → partsN t ≤ 500) : Pl t := by
  have hd := hv.dim
  have hx := plainT_len (z := false) hd
  have hz : t.kind = 0 → t.l = [] := fun hk => by
    rcases hv with h | ⟨n, h⟩
    · exact (noneT_spec h).2.1
    · have := deepB_own h; simp [ownB, hk] at this
  have hsum : partsGo 1 t.l ≤ 500 := by
    by_cases hk : t.kind = 0
    · rw [hz hk]; decide
    · rw [← partsN_eq]; exact hp hk
  have hsum2 : partsGo 1 (plainT false t).l ≤ 500 := by
    by_cases hk : t.kind = 16
    · have : (plainT false t).l = List.replicate t.names.length ty0 := by rw [plainT, if_neg (by omega), if_pos hk]; rfl
      rw [this, partsGo_rep]; omega
    · rw [partsGo_plain t false hk]; exact hsum
  exact ⟨hd, hx.1, hsum, hsum2, fun x hx => ⟨hv.el hx, pw_el hsum hx⟩⟩
theorem may_vd {t : Ty} (h : mayB t = true) : Vd t ∧ (t.kind ≠ 0 → partsN t ≤ 500) := by
  simp only [mayB, Bool.and_eq_true, decide_eq_true_eq] at h
  exact ⟨.inr ⟨0, h.1⟩, fun _ => h.2⟩
theorem flat0_p : E.Pure Tryz.prog 61 [encTy ty0] (.one (.t (iT []))) :=
  flat_core ty0 ty0 (plain_p ty0 (by decide) (by decide)) (by decide) (by decide) (fun i h => absurd h (Nat.not_lt_zero i)) (fun y hy => by cases hy) (by decide) (by decide)
theorem flat_p : ∀ (m : Nat) (t : Ty), SizeOf.sizeOf t ≤ m → Vd t → (t.kind ≠ 0 → partsN t ≤ 500) → E.Pure Tryz.prog 61 [encTy t] (.one (.t (iT (flN t)))) := by
  intro m
  induction m with
  | zero => intro t hm; cases t; simp at hm
  | succ m ih =>
    intro t hm hv hp
    have h := hv.pl hp
    have hr := rowN_len _ 1 (by omega) h.sum2
    have hj := joinsN_len _ [] 1 (by omega) (by simp) h.sum2
    have hs2 := h.sum2
    rw [← flN_plain t false, flN_eq]
    refine flat_core t (plainT false t) (plain_p t h.dim.nm h.dim.l) (plainT_kind t false) h.len (fun i hi => ?_) (fun y hy => ?_) (by omega) (by omega)
    · have hmem := List.getElem_mem hi
      rw [show agTy (plainT false t).l[i] = encTy (plainT false t).l[i] from (encTy_eta _).symm]
      rcases plainT_el hmem with e | e
      · rw [e]; exact flat0_p
      · exact ih _ (by have h1 := List.sizeOf_lt_of_mem e; have h2 : SizeOf.sizeOf t.l < SizeOf.sizeOf t := by cases t; simp [Ty.l]; omega
                       omega) (h.el _ e).1 (h.el _ e).2
    · rcases plainT_el hy with e | e
      · rw [e]; decide
      · have h1 := flN_len y (h.el _ e).2
        have h2 : pw y ≤ 500 := by
          by_cases hk : y.kind = 0
          · rw [pw, if_pos hk]; omega
          · rw [pw, if_neg hk]; exact (h.el _ e).2 hk
        omega
theorem Flat_p (HN : LexName) (t : Ty) (hs : small t) : E.Pure Tryz.prog 32 [encTy t] (.one (.t (iT (if mayB t then flN t else [])))) := by
  have hc := check_p HN t hs
  have hl : mayB t = true → E.Pure Tryz.prog 61 [encTy t] (.one (.t (iT (flN t)))) := fun h => flat_p _ t (Nat.le_refl _) (may_vd h).1 (may_vd h).2
  refine Pure.of1 Tryz.func32 rfl rfl (Nat.le_of_ble_eq_true rfl) rfl ?_
  rw [encTy_eta t] at *
  cases hm : mayB t with
  | false =>
    simp only [hm] at hc ⊢
    repeat' (first | refine Tri.seq ?_ | refine Tri.reg ?_ | refine TriL.nil ?_ | (apply U.assignT; rfl; trivial; rfl) | (apply U.bin; rfl; trivial; rfl; trivial; rfl; rfl) | (apply U.loadS; rfl; rfl; trivial; rfl; rfl; rfl; rfl; rfl) | (apply U.boxA; rfl; rfl) | refine U.call1 rfl rfl (by assumption) rfl ?_ | refine Tri.ret ?_ | (refine Tri.cond rfl (fun h => ?_) (fun h => ?_) <;> (try simp at h) <;> (try contradiction)) | fail)
    exact Comes1.ret rfl rfl
  | true =>
    simp only [hm] at hc ⊢
    have hl := hl hm
    repeat' (first | refine Tri.seq ?_ | refine Tri.reg ?_ | refine TriL.nil ?_ | (apply U.assignT; rfl; trivial; rfl) | (apply U.bin; rfl; trivial; rfl; trivial; rfl; rfl) | (apply U.loadS; rfl; rfl; trivial; rfl; rfl; rfl; rfl; rfl) | (apply U.boxA; rfl; rfl) | refine U.call1 rfl rfl (by assumption) rfl ?_ | refine Tri.skip ?_ | refine Tri.ret ?_ | (refine Tri.cond rfl (fun h => ?_) (fun h => ?_) <;> (try simp at h) <;> (try contradiction)) | fail)
    exact Comes1.ret rfl rfl
end Go.Proofs.YtldelbknkkeniaaGreatDoor

/- Layer 13: the reference's Inside, Sized. -/
namespace Go.Proofs.YtldelbknkkeniaaGreatDoor
open Go E
set_option maxRecDepth 100000
set_option maxHeartbeats 4000000
set_option linter.unusedVariables false
set_option linter.unusedSimpArgs false
attribute [local irreducible] Tri TriL TriO PO VO E.Pure DOb
theorem Vd.kinds {t : Ty} (h : Vd t) : t.kind = 0 ∧ t.l = [] ∨ 1 ≤ t.kind ∧ t.kind ≤ 21 ∧ ownB t = true := by
  rcases h with h | ⟨n, h⟩
  · obtain ⟨h1, h2, h3⟩ := noneT_spec h
    exact .inl ⟨h1, h2⟩
  · have h2 := deepB_own h
    refine .inr ⟨?_, ?_, h2⟩ <;> (unfold ownB at h2; (repeat' split at h2) <;> simp at h2 <;> omega)
/-- What is asked of a type, here and as Plain, that it may be measured. -/
structure Gd (t : Ty) : Prop where
  nm : t.names.length ≤ 64
  l : t.l.length ≤ 65
  fl : t.kind = 19 → t.names.length ≤ 32
  ki : t.kind = 0 ∧ t.l = [] ∨ 1 ≤ t.kind ∧ t.kind ≤ 21
  k16 : t.kind = 16 → t.l = []
  sum : partsGo 1 t.l ≤ 500
  el : ∀ x ∈ t.l, Vd x ∧ (x.kind ≠ 0 → partsN x ≤ 500)
end Go.Proofs.YtldelbknkkeniaaGreatDoor

/- Layer 13: the reference's Row, Cores. -/
namespace Go.Proofs.YtldelbknkkeniaaGreatDoor
open Go E
set_option maxRecDepth 100000
set_option maxHeartbeats 4000000
set_option linter.unusedVariables false
set_option linter.unusedSimpArgs false
attribute [local irreducible] Tri TriL TriO PO VO E.Pure DOb
theorem len_fl {t : Ty} (h : t.kind ≠ 0 → partsN t ≤ 500) : (flN t).length ≤ 1000 := by
  have h1 := flN_len t h
  have h2 : pw t ≤ 500 := by
    by_cases hk : t.kind = 0
    · rw [pw, if_pos hk]; omega
    · rw [pw, if_neg hk]; exact h hk
  omega
end Go.Proofs.YtldelbknkkeniaaGreatDoor
