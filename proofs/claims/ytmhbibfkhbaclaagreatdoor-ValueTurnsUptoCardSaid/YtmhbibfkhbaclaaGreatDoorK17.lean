/- Layer 13, the code: Itoa of small numbers, Clone. -/
import Derived.Test.YtmhbibfkhbaclaaGreatDoorK14
import Derived.Test.YtmhbibfkhbaclaaGreatDoorK16
namespace Go.Proofs.YtmhbibfkhbaclaaGreatDoor
open Go E
set_option maxRecDepth 100000
set_option maxHeartbeats 4000000
set_option linter.unusedVariables false
set_option linter.unusedSimpArgs false
attribute [local irreducible] Tri TriL TriO PO VO E.Pure DOb
/-- A small number, as it is written. -/
def digT (n : Nat) : ByteArray := ⟨if n < 10 then #[UInt8.ofNat (48 + n)] else #[UInt8.ofNat (48 + n / 10), UInt8.ofNat (48 + n % 10)]⟩
theorem small_p (n : Nat) (h : n < 100) : E.Pure Tryz.prog 83 [tInt n] (.one (.t (tStr (digT n)))) := by
  refine Pure.of1 Tryz.func83 rfl rfl (Nat.le_of_ble_eq_true rfl) rfl ?_
  repeat' (first | refine Tri.seq ?_ | refine Tri.reg ?_ | refine TriL.nil ?_ | (apply U.moveT; rfl; trivial; rfl) | (apply U.assignT; rfl; trivial; rfl) | (apply U.add; rfl; trivial; rfl; trivial; exact fun _ => wrap_i64 (by omega) (by omega); rfl) | (apply U.mul; rfl; trivial; rfl; trivial; exact fun _ => (by first | assumption | exact wrap_i64 (by omega) (by omega)); rfl) | (apply U.bin; rfl; trivial; rfl; trivial; rfl; rfl) | refine Tri.skip ?_ | (refine Tri.cond rfl (fun h => ?_) (fun h => ?_) <;> (try simp at h) <;> (try contradiction)) | fail)
  · refine U.cutSLH rfl trivial rfl trivial rfl trivial (fun _ => by omega) (fun _ => by omega) (fun _ => ?_) rfl ?_
    · show (n : Int) + 1 ≤ ((36 : Nat) : Int); omega
    repeat' (first | refine TriL.nil ?_ | (apply U.assignT; rfl; trivial; rfl) | refine Tri.ret ?_ | fail)
    refine Comes1.ret rfl ?_
    refine congrArg R1.t (congrArg T.v (congrArg Value.string (ByteArray.ext ?_)))
    revert n; decide
  · refine U.cutSLH rfl trivial rfl trivial rfl trivial (fun _ => by omega) (fun _ => by omega) (fun _ => ?_) rfl ?_
    · show (n : Int) * 2 + 2 ≤ ((200 : Nat) : Int); omega
    repeat' (first | refine TriL.nil ?_ | (apply U.assignT; rfl; trivial; rfl) | refine Tri.ret ?_ | fail)
    refine Comes1.ret rfl ?_
    refine congrArg R1.t (congrArg T.v (congrArg Value.string (ByteArray.ext ?_)))
    revert n; decide
theorem itoa_p (n : Nat) (h : n < 100) : E.Pure Tryz.prog 56 [tInt n] (.one (.t (tStr (digT n)))) := by
  have h1 := small_p n h
  have h2 : E.Pure Tryz.prog 74 [tInt n, tInt 10] (.one (.t (tStr (digT n)))) := by
    refine Pure.of1 Tryz.func74 rfl rfl (Nat.le_of_ble_eq_true rfl) rfl ?_
    repeat' (first | refine Tri.seq ?_ | refine Tri.reg ?_ | refine TriL.nil ?_ | (apply U.moveT; rfl; trivial; rfl) | (apply U.assignT; rfl; trivial; rfl) | (apply U.bin; rfl; trivial; rfl; trivial; rfl; rfl) | (apply U.conv; rfl; trivial; rfl; rfl) | (apply U.pickb; rfl; trivial; rfl; (first | trivial | exact id | exact And.right | exact gvA | exact gvB | exact And.left | exact gvN | exact gvP2 | exact gvN2 | exact gvLA); rfl; (first | trivial | exact id | exact And.right | exact gvA | exact gvB | exact And.left | exact gvN | exact gvP2 | exact gvN2 | exact gvLA); rfl) | (apply U.alloc; rfl; rfl; rfl; rfl) | (apply G.moveT; rfl; (first | trivial | exact id | exact And.right | exact gvA | exact gvB | exact And.left | exact gvN | exact gvP2 | exact gvN2 | exact gvLA); rfl; rfl; rfl) | (apply G.bin; rfl; (first | trivial | exact id | exact And.right | exact gvA | exact gvB | exact And.left | exact gvN | exact gvP2 | exact gvN2 | exact gvLA); rfl; (first | trivial | exact id | exact And.right | exact gvA | exact gvB | exact And.left | exact gvN | exact gvP2 | exact gvN2 | exact gvLA); rfl; rfl; rfl; rfl) | refine U.call1 rfl rfl (by assumption) rfl ?_ | refine Tri.skip ?_ | refine Tri.ret ?_ | (refine Tri.cond rfl (fun h => ?_) (fun h => ?_) <;> (try simp at h) <;> (try contradiction)) | fail)
    · exact Comes1.ret rfl rfl
    all_goals (exfalso; omega)
  have h3 : E.Pure Tryz.prog 75 [tInt n] (.one (.t (tStr (digT n)))) := by
    refine Pure.of1 Tryz.func75 rfl rfl (Nat.le_of_ble_eq_true rfl) rfl ?_
    repeat' (first | refine Tri.seq ?_ | refine Tri.reg ?_ | refine TriL.nil ?_ | (apply U.moveT; rfl; trivial; rfl) | (apply U.assignT; rfl; trivial; rfl) | refine U.call2 rfl rfl rfl (by assumption) rfl ?_ | refine Tri.ret ?_ | fail)
    exact Comes1.ret rfl rfl
  refine Pure.of1 Tryz.func56 rfl rfl (Nat.le_of_ble_eq_true rfl) rfl ?_
  repeat' (first | refine Tri.seq ?_ | refine Tri.reg ?_ | refine TriL.nil ?_ | (apply U.moveT; rfl; trivial; rfl) | (apply U.assignT; rfl; trivial; rfl) | refine U.call1 rfl rfl (by assumption) rfl ?_ | refine Tri.ret ?_ | fail)
  exact Comes1.ret rfl rfl
theorem clone_p (l : List T) (nn : Bool) (hb : l.length ≤ 1000) (ht : (l.all fun x => x.leaves.length == 1) = true) (hn : nn = true → l = []) : E.Pure Tryz.prog 64 [.sl nn l] (.one (.t (.sl nn l))) := by
  refine Pure.of1 Tryz.func64 rfl rfl (Nat.le_of_ble_eq_true rfl) rfl ?_
  repeat' (first | refine Tri.seq ?_ | refine Tri.reg ?_ | refine TriL.nil ?_ | (apply U.moveT; rfl; trivial; rfl) | (apply U.assignT; rfl; trivial; rfl) | refine Tri.skip ?_ | refine Tri.ret ?_ | (apply U.eqNil; rfl; trivial; rfl; trivial; rfl) | (refine Tri.cond rfl (fun h => ?_) (fun h => ?_) <;> (try simp at h) <;> (try contradiction)) | fail)
  · refine Comes1.ret rfl ?_
    subst h; rw [hn rfl]
  · (apply U.lit; rfl; rfl; rfl; rfl; rfl; rfl; rfl; rfl)
    repeat' (first | (apply U.moveT; rfl; trivial; rfl) | fail)
    refine U.appOwn rfl rfl rfl rfl (SrcE.t rfl ht) ?_ ?_ rfl ?_
    · omega
    · omega
    repeat' (first | refine TriL.nil ?_ | (apply U.assignR; rfl; trivial; rfl) | refine Tri.ret ?_ | fail)
    refine Comes1.retF rfl rfl (by simp) ?_
    subst h; simp
theorem cloneT_p (l : List T) (nn : Bool) (hb : l.length ≤ 1000) (ht : (l.all fun x => x.leaves.length == 4) = true) (hn : nn = true → l = []) : E.Pure Tryz.prog 65 [.sl nn l] (.one (.t (.sl nn l))) := by
  refine Pure.of1 Tryz.func65 rfl rfl (Nat.le_of_ble_eq_true rfl) rfl ?_
  repeat' (first | refine Tri.seq ?_ | refine Tri.reg ?_ | refine TriL.nil ?_ | (apply U.moveT; rfl; trivial; rfl) | (apply U.assignT; rfl; trivial; rfl) | refine Tri.skip ?_ | refine Tri.ret ?_ | (apply U.eqNil; rfl; trivial; rfl; trivial; rfl) | (refine Tri.cond rfl (fun h => ?_) (fun h => ?_) <;> (try simp at h) <;> (try contradiction)) | fail)
  · refine Comes1.ret rfl ?_
    subst h; rw [hn rfl]
  · (apply U.lit; rfl; rfl; rfl; rfl; rfl; rfl; rfl; rfl)
    repeat' (first | (apply U.moveT; rfl; trivial; rfl) | fail)
    refine U.appOwn rfl rfl rfl rfl (SrcE.t rfl ht) ?_ ?_ rfl ?_
    · omega
    · omega
    repeat' (first | refine TriL.nil ?_ | (apply U.assignR; rfl; trivial; rfl) | refine Tri.ret ?_ | fail)
    refine Comes1.retF rfl rfl (by simp) ?_
    subst h; simp
end Go.Proofs.YtmhbibfkhbaclaaGreatDoor

/- Layer 13, the code: Plain. -/
namespace Go.Proofs.YtmhbibfkhbaclaaGreatDoor
open Go E
set_option maxRecDepth 100000
set_option maxHeartbeats 4000000
set_option linter.unusedVariables false
set_option linter.unusedSimpArgs false
attribute [local irreducible] Tri TriL TriO PO VO E.Pure DOb
def ty0 : Ty := .mk 0 true [] true [] 0
def nmNone : ByteArray := ⟨#[110, 111, 110, 101]⟩
def nmSome : ByteArray := ⟨#[115, 111, 109, 101]⟩
def nmOk : ByteArray := ⟨#[111, 107]⟩
def nmError : ByteArray := ⟨#[101, 114, 114, 111, 114]⟩
def digs (n : Nat) : List ByteArray := (List.range n).map digT
/-- Plain; z: is the list of types of a variant without cases nil? -/
def plainT (z : Bool) (t : Ty) : Ty :=
  if t.kind = 14 then .mk 13 t.l.isEmpty (digs t.l.length) t.l.isEmpty t.l 0
  else if t.kind = 16 then .mk 15 t.nn t.names (z && t.names.isEmpty) (List.replicate t.names.length ty0) 0
  else if t.kind = 17 then .mk 15 false [nmNone, nmSome] false (ty0 :: t.l) 0
  else if t.kind = 18 then .mk 15 false [nmOk, nmError] t.nl t.l 0
  else t
theorem encTys_rep (n : Nat) (t : Ty) : encTys (List.replicate n t) = List.replicate n (encTy t) := by
  induction n with
  | zero => rfl
  | succ n ih => rw [List.replicate_succ, List.replicate_succ, encTys, ih]
theorem encTys_app : ∀ (a b : List Ty), encTys (a ++ b) = encTys a ++ encTys b
  | [], b => rfl
  | t :: a, b => by simp [encTys, encTys_app a b]
theorem leaves_all (l : List Ty) : ((encTys l).all fun x => x.leaves.length == 4) = true := by
  induction l with
  | nil => rfl
  | cons t l ih => simp [encTys, leaves_encTy, ih]
theorem leaves_str (l : List ByteArray) : ((l.map tStr).all fun x => x.leaves.length == 1) = true := by
  simp [tStr, T.leaves]
structure Wf (t : Ty) : Prop where
  nn : t.nn = true → t.names = []
  nl : t.nl = true → t.l = []
theorem wf_sl {F : FMem} {n : Bool} {xs : List T} {v : Value} (h : TR F (.sl n xs) v) : n = true → xs = [] := by
  cases h with
  | nil => intro _; rfl
  | sl0 => intro _; rfl
  | sl => intro h; cases h
theorem wf_ty {F : FMem} {t : Ty} {v : Value} (h : TR F (encTy t) v) : Wf t := by
  rw [encTy_eta] at h
  cases h with
  | @agg xs vs hn h =>
    have hs : vs.size = 4 := by simpa using hn.symm
    have h1 := h 1 _ vs[1] rfl (Array.getElem?_eq_getElem (by omega))
    have h2 := h 2 _ vs[2] rfl (Array.getElem?_eq_getElem (by omega))
    refine ⟨fun e => ?_, fun e => ?_⟩
    · simpa using wf_sl h1 e
    · have := wf_sl h2 e
      have h3 := encTys_length t.l
      rw [this] at h3
      exact List.length_eq_zero_iff.1 h3.symm
theorem plain_p (t : Ty) (h1 : t.names.length ≤ 64) (h2 : t.l.length ≤ 64) : E.Pure Tryz.prog 44 [encTy t] (.one (.t (encTy (plainT false t)))) := by
  refine E.Pure.wf1 (fun F v h => wf_ty h) fun hw => ?_
  have hlen := encTys_length t.l
  have hlen2 : (t.names.map tStr).length = t.names.length := by simp
  have hc1 := clone_p (t.names.map tStr) t.nn (by omega) (leaves_str _) (fun e => by rw [hw.nn e]; rfl)
  have hc2 := cloneT_p (encTys t.l) t.nl (by omega) (leaves_all _) (fun e => by rw [hw.nl e]; rfl)
  refine Pure.ofC rfl Tryz.func44 rfl rfl (Nat.le_of_ble_eq_true rfl) rfl ?_
  rw [encTy_eta t]
  repeat' (first | refine Tri.seq ?_ | refine Tri.reg ?_ | refine TriL.nil ?_ | (apply U.moveT; rfl; trivial; rfl) | (apply U.assignT; rfl; trivial; rfl) | (apply U.load; rfl; rfl; trivial; rfl; rfl; rfl) | (apply U.fld; rfl; trivial; rfl; infer_instance; decide; rfl) | (apply U.bin; rfl; trivial; rfl; trivial; rfl; rfl) | (apply U.len; rfl; trivial; rfl) | (apply U.loadS; rfl; rfl; trivial; rfl; rfl; rfl; rfl; rfl) | (apply U.boxA; rfl; rfl) | (apply U.alloc; rfl; rfl; rfl; rfl) | (apply U.storeS; rfl; rfl; rfl; rfl; rfl; rfl; rfl; rfl) | refine Tri.skip ?_ | refine Tri.block ?_ | refine Tri.ret ?_ | (apply U.build; rfl; rfl; rfl; rfl; rfl) | (refine Tri.cond rfl (fun h => ?_) (fun h => ?_) <;> (try simp at h) <;> (try contradiction)) | fail)
  · -- a tuple
    refine Tri.loopL (fun i => match i with
        | 0 => ⟨[(14, .t (tInt ((0 : Nat) : Int))), (13, .t (tInt t.l.length)), (12, .t (.sl t.nl (encTys t.l))), (3, .ptr 2 0), (2, .ptr 1 0)], Tryz.f44.ntmps, [(2, .obj [.t (tInt 13), .t (.sl true []), .t (.sl true []), .t (tInt 0)]), (1, .obj [.t (tInt 0), .t (.sl true []), .t (.sl true []), .t (tInt 0)])], 0, 3⟩
        | k + 1 => ⟨[(14, .t (tInt ((k + 1 : Nat) : Int))), (13, .t (tInt t.l.length)), (12, .t (.sl t.nl (encTys t.l))), (3, .ptr 2 0), (2, .ptr 1 0)], Tryz.f44.ntmps, [(2, .obj [.t (tInt 13), .ref 3 1 0 (k + 1) (k + 1), .ref 4 4 0 (k + 1) (k + 1), .t (tInt 0)]), (1, .obj [.t (tInt 0), .t (.sl true []), .t (.sl true []), .t (tInt 0)]), (3, .row 1 ((digs (k + 1)).map tStr) false), (4, .row 4 (encTys (t.l.take (k + 1))) false)], 0, 5⟩)
      (fun i => i ≤ t.l.length) (fun i => t.l.length - i) 0 (Nat.zero_le _) ?_ ?_
    · refine Sub.less (Sub.of rfl rfl ⟨rfl, ?_, rfl, rfl, rfl, trivial⟩ ⟨rfl, rfl, trivial⟩)
      rw [← hlen]; rfl
    rintro (_ | k) hi
    · repeat' (first | refine Tri.seq ?_ | refine Tri.reg ?_ | refine TriL.nil ?_ | (apply U.moveT; rfl; trivial; rfl) | (apply U.bin; rfl; trivial; rfl; trivial; rfl; rfl) | (apply U.loadS; rfl; rfl; trivial; rfl; rfl; rfl; rfl; rfl) | (apply U.storeS; rfl; rfl; rfl; rfl; rfl; rfl; rfl; rfl) | refine Tri.skip ?_ | refine Tri.block ?_ | refine Tri.exit ?_ | refine Tri.ret ?_ | (refine Tri.cond rfl (fun h => ?_) (fun h => ?_) <;> (try simp at h) <;> (try contradiction)) | fail)
      · have hlt : 0 < t.l.length := by omega
        have hget := get_ty hlt
        have hit := itoa_p 0 (by omega)
        repeat' (first | refine TriL.nil ?_ | (apply U.assignT; rfl; trivial; rfl) | (apply U.loadES; rfl; rfl; trivial; rfl; rfl; rfl) | (apply U.idx; rfl; trivial; rfl; trivial; exact fun _ => (by omega); exact fun _ => (by assumption); exact fun _ => rfl; rfl) | (apply U.alloc; rfl; rfl; rfl; rfl) | (apply U.storeS; rfl; rfl; rfl; rfl; rfl; rfl; rfl; rfl) | fail)
        refine Tri.regDB [(2, .obj [.t (tInt 13), .t (.sl true []), .t (.sl true []), .t (tInt 0)]), (3, .obj ((agTy t.l[0]).leaves.map .t))] [5, 10, 12, 14] mixed (by kernel_rfl) (.of ⟨rfl, rfl, trivial⟩) ?_
        repeat' (first | refine TriL.nil ?_ | exact ⟨rfl, rfl, rfl⟩ | (apply D.v; rfl; rfl; rfl) | (apply U.moveT; rfl; trivial; rfl) | (apply U.load; rfl; rfl; trivial; rfl; rfl; rfl) | (apply U.fld; rfl; trivial; rfl; infer_instance; decide; rfl) | refine U.call1 rfl rfl (by assumption) rfl ?_ | fail)
        · (apply U.litT; rfl; rfl; rfl; rfl; rfl; rfl; rfl; rfl)
          repeat' (first | refine TriL.nil ?_ | exact ⟨rfl, rfl, rfl⟩ | fail)
        (apply D.e; rfl; rfl; rfl; rotate_left)
        · refine U.appNil rfl (SrcE.t rfl rfl) Nat.zero_lt_one (Nat.le_of_ble_eq_true rfl) (Nat.le_of_ble_eq_true rfl) rfl ?_
          repeat' (first | refine TriL.nil ?_ | exact ⟨rfl, rfl, rfl⟩ | fail)
        (apply D.f; rfl; rfl; rfl; intro hp_ n_)
        · repeat' (first | refine TriL.nil ?_ | exact ⟨rfl, rfl, rfl⟩ | (apply U.fld; rfl; trivial; rfl; infer_instance; decide; rfl) | fail)
        (apply D.fb; rfl; rfl; rfl; intro hp_ n_ hk_)
        · refine U.load rfl rfl trivial (hk_ 2 _ rfl) rfl rfl ?_
          repeat' (first | refine TriL.nil ?_ | exact ⟨rfl, rfl, rfl⟩ | fail)
        (apply D.fb; rfl; rfl; rfl; intro hp_ n_ hk_)
        · refine U.loadS rfl rfl trivial (hk_ 3 _ rfl) rfl rfl rfl rfl ?_
          repeat' (first | refine TriL.nil ?_ | exact ⟨rfl, rfl, rfl⟩ | fail)
        (apply D.f; rfl; rfl; rfl; intro hp_ n_)
        · (apply U.litT; rfl; rfl; rfl; rfl; rfl; rfl; rfl; rfl)
          repeat' (first | refine TriL.nil ?_ | exact ⟨rfl, rfl, rfl⟩ | fail)
        (apply D.e; rfl; rfl; rfl; rotate_left)
        · refine U.appNil rfl (SrcE.t rfl rfl) Nat.zero_lt_one (Nat.le_of_ble_eq_true rfl) (Nat.le_of_ble_eq_true rfl) rfl ?_
          repeat' (first | refine TriL.nil ?_ | exact ⟨rfl, rfl, rfl⟩ | fail)
        (apply D.f; rfl; rfl; rfl; intro hp_ n_)
        · repeat' (first | refine TriL.nil ?_ | exact ⟨rfl, rfl, rfl⟩ | (apply U.fld; rfl; trivial; rfl; infer_instance; decide; rfl) | fail)
        skip
        (apply D.s; rfl; rfl; rfl; rotate_left)
        repeat' (first | refine TriL.nil ?_ | exact ⟨rfl, rfl, rfl⟩ | (apply D.v; rfl; rfl; rfl) | (apply U.fld; rfl; trivial; rfl; infer_instance; decide; rfl) | (apply U.store; rfl; rfl; rfl; rfl; rfl; rfl; rfl) | exact ⟨rfl, rfl⟩ | fail)
        (apply D.s; rfl; rfl; rfl; rotate_left)
        repeat' (first | refine Tri.reg ?_ | refine TriL.nil ?_ | refine D.nil ?_ | (apply U.moveT; rfl; trivial; rfl) | (apply U.add; rfl; trivial; rfl; trivial; exact fun _ => wrap_i64 (by omega) (by omega); rfl) | (apply U.store; rfl; rfl; rfl; rfl; rfl; rfl; rfl) | exact ⟨rfl, rfl⟩ | fail)
        · refine ⟨0 + 1, hlt, by omega, ?_⟩
          refine Less.ren (fun b => if b = 3 then 4 else if b = 4 then 5 else b) rfl rfl ⟨rfl, rfl, rfl, rfl, rfl, trivial⟩ ⟨rfl, rfl, ?_, ?_, trivial⟩ rfl rfl rfl
          · rfl
          · rw [show t.l.take (0 + 1) = [t.l[0]] from (by rw [List.take_succ_eq_append_getElem hlt]; rfl), encTys, encTys, encTy_eta]; rfl
        all_goals first | (exact fun _ => .of ⟨rfl, rfl, trivial⟩) | (intro h_; cases h_)
      · -- the end
        have hz : t.l.length = 0 := by first | omega | exact List.length_eq_zero_iff.2 (by assumption)
        refine ComesC.tree rfl rfl rfl rfl ?_
        rw [plainT, if_pos (by assumption)]
        have : t.l = [] := List.length_eq_zero_iff.1 hz
        rw [this]; rfl
    · repeat' (first | refine Tri.seq ?_ | refine Tri.reg ?_ | refine TriL.nil ?_ | (apply U.moveT; rfl; trivial; rfl) | (apply U.bin; rfl; trivial; rfl; trivial; rfl; rfl) | (apply U.loadS; rfl; rfl; trivial; rfl; rfl; rfl; rfl; rfl) | (apply U.storeS; rfl; rfl; rfl; rfl; rfl; rfl; rfl; rfl) | refine Tri.skip ?_ | refine Tri.block ?_ | refine Tri.exit ?_ | refine Tri.ret ?_ | (refine Tri.cond rfl (fun h => ?_) (fun h => ?_) <;> (try simp at h) <;> (try contradiction)) | fail)
      · have hlt : k + 1 < t.l.length := by omega
        have hget := get_ty hlt
        have hit := itoa_p (k + 1) (by omega)
        repeat' (first | refine TriL.nil ?_ | (apply U.assignT; rfl; trivial; rfl) | (apply U.loadES; rfl; rfl; trivial; rfl; rfl; rfl) | (apply U.idx; rfl; trivial; rfl; trivial; exact fun _ => (by omega); exact fun _ => (by assumption); exact fun _ => rfl; rfl) | (apply U.alloc; rfl; rfl; rfl; rfl) | (apply U.storeS; rfl; rfl; rfl; rfl; rfl; rfl; rfl; rfl) | fail)
        refine Tri.regDB [(2, .obj [.t (tInt 13), .ref 3 1 0 (k + 1) (k + 1), .ref 4 4 0 (k + 1) (k + 1), .t (tInt 0)]), (5, .obj ((agTy t.l[k + 1]).leaves.map .t))] [5, 10, 12, 14] mixed (by kernel_rfl) (.of ⟨rfl, rfl, trivial⟩) ?_
        repeat' (first | refine TriL.nil ?_ | exact ⟨rfl, rfl, rfl⟩ | (apply D.v; rfl; rfl; rfl) | (apply U.moveT; rfl; trivial; rfl) | (apply U.load; rfl; rfl; trivial; rfl; rfl; rfl) | (apply U.fld; rfl; trivial; rfl; infer_instance; decide; rfl) | refine U.call1 rfl rfl (by assumption) rfl ?_ | fail)
        · (apply U.litT; rfl; rfl; rfl; rfl; rfl; rfl; rfl; rfl)
          repeat' (first | refine TriL.nil ?_ | exact ⟨rfl, rfl, rfl⟩ | fail)
        (apply D.e; rfl; rfl; rfl; rotate_left)
        · refine U.appOwn rfl rfl (by simp [digs]) (by simp [digs]) (SrcE.t rfl rfl) (by simp; omega) (by simp; omega) rfl ?_
          repeat' (first | refine TriL.nil ?_ | exact ⟨rfl, rfl, rfl⟩ | fail)
        (apply D.f; rfl; rfl; rfl; intro hp_ n_)
        · repeat' (first | refine TriL.nil ?_ | exact ⟨rfl, rfl, rfl⟩ | (apply U.fld; rfl; trivial; rfl; infer_instance; decide; rfl) | fail)
        (apply D.fb; rfl; rfl; rfl; intro hp_ n_ hk_)
        · refine U.load rfl rfl trivial (hk_ 2 _ rfl) rfl rfl ?_
          repeat' (first | refine TriL.nil ?_ | exact ⟨rfl, rfl, rfl⟩ | fail)
        (apply D.fb; rfl; rfl; rfl; intro hp_ n_ hk_)
        · refine U.loadS rfl rfl trivial (hk_ 5 _ rfl) rfl rfl rfl rfl ?_
          repeat' (first | refine TriL.nil ?_ | exact ⟨rfl, rfl, rfl⟩ | fail)
        (apply D.f; rfl; rfl; rfl; intro hp_ n_)
        · (apply U.litT; rfl; rfl; rfl; rfl; rfl; rfl; rfl; rfl)
          repeat' (first | refine TriL.nil ?_ | exact ⟨rfl, rfl, rfl⟩ | fail)
        (apply D.e; rfl; rfl; rfl; rotate_left)
        · refine U.appOwn rfl rfl (by simp [encTys_length]; omega) (by simp [encTys_length]; omega) (SrcE.t rfl rfl) (by simp; omega) (by simp; omega) rfl ?_
          repeat' (first | refine TriL.nil ?_ | exact ⟨rfl, rfl, rfl⟩ | fail)
        (apply D.f; rfl; rfl; rfl; intro hp_ n_)
        · repeat' (first | refine TriL.nil ?_ | exact ⟨rfl, rfl, rfl⟩ | (apply U.fld; rfl; trivial; rfl; infer_instance; decide; rfl) | fail)
        skip
        (apply D.s; rfl; rfl; rfl; rotate_left)
        repeat' (first | refine TriL.nil ?_ | exact ⟨rfl, rfl, rfl⟩ | (apply D.v; rfl; rfl; rfl) | (apply U.fld; rfl; trivial; rfl; infer_instance; decide; rfl) | (apply U.store; rfl; rfl; rfl; rfl; rfl; rfl; rfl) | exact ⟨rfl, rfl⟩ | fail)
        (apply D.s; rfl; rfl; rfl; rotate_left)
        repeat' (first | refine Tri.reg ?_ | refine TriL.nil ?_ | refine D.nil ?_ | (apply U.moveT; rfl; trivial; rfl) | (apply U.add; rfl; trivial; rfl; trivial; exact fun _ => wrap_i64 (by omega) (by omega); rfl) | (apply U.store; rfl; rfl; rfl; rfl; rfl; rfl; rfl) | exact ⟨rfl, rfl⟩ | fail)
        · refine ⟨k + 1 + 1, hlt, by omega, ?_⟩
          refine Less.ren (fun b => if b = 3 then 6 else if b = 4 then 7 else b) rfl rfl ⟨rfl, rfl, rfl, rfl, rfl, trivial⟩ ⟨rfl, rfl, ?_, ?_, trivial⟩ rfl rfl rfl
          · rw [show (digs (k + 1 + 1)).map tStr = (digs (k + 1)).map tStr ++ [tStr (digT (k + 1))] from (by simp [digs, List.range_succ])]; rfl
          · rw [List.take_succ_eq_append_getElem hlt, encTys_app, encTys, encTys, encTy_eta]; rfl
        all_goals first | (exact fun _ => .of ⟨rfl, rfl, trivial⟩) | (intro h_; cases h_)
      · -- the end
        have hz : t.l.length = k + 1 := by omega
        refine ComesC.of rfl rfl (ls' := [_, _, _, _]) rfl rfl (.tree rfl (.froz rfl ?_ (.froz rfl ?_ (.tree rfl .nil)))) ⟨[_, _, _, _], rfl, ?_⟩
        · simp [digs]
        · simp [encTys_length]; omega
        · rw [plainT, if_pos (by assumption)]
          have : t.l.isEmpty = false := by cases hl : t.l <;> simp_all
          rw [this, encTy, hz]
          simp [digs, List.take_of_length_le, hz]
          exact ⟨rfl, List.take_of_length_le (by rw [encTys_length]; omega), rfl⟩
  · -- an enum
    refine Tri.regD [8] mixed (by kernel_rfl) ?_
    repeat' (first | refine TriL.nil ?_ | exact ⟨rfl, rfl, rfl⟩ | (apply D.v; rfl; rfl; rfl) | (apply U.load; rfl; rfl; trivial; rfl; rfl; rfl) | (apply U.fld; rfl; trivial; rfl; infer_instance; decide; rfl) | (apply U.len; rfl; trivial; rfl) | refine U.call1 rfl rfl (by assumption) rfl ?_ | fail)
    · (apply U.makeT; rfl; trivial; rfl; trivial; rfl; rfl; rfl; (first | omega | (simp; omega)); (first | omega | (simp; omega)); (first | omega | (simp; omega)); rfl)
      repeat' (first | refine TriL.nil ?_ | exact ⟨rfl, rfl, rfl⟩ | fail)
    repeat' (first | refine TriL.nil ?_ | exact ⟨rfl, rfl, rfl⟩ | (apply U.build; rfl; rfl; rfl; rfl; rfl) | fail)
    (apply D.s; rfl; rfl; rfl; rotate_left)
    repeat' (first | refine TriL.nil ?_ | refine D.nil ?_ | (apply U.storeS; rfl; rfl; rfl; rfl; rfl; rfl; rfl; rfl) | refine Tri.ret ?_ | exact ⟨rfl, rfl⟩ | fail)
    · refine ComesC.tree rfl rfl rfl rfl ?_
      rw [plainT, if_neg (by omega), if_pos h]
      show _ = T.agg [_, _, T.sl (false && _) (encTys (List.replicate t.names.length ty0)), _]
      rw [encTys_rep, Int.toNat_natCast, List.length_map]; rfl
    · exact fun _ => .nil
  · -- an option
    refine Tri.regDB [(0, .obj [.t (.v (.int .i64 t.kind)), .t (.sl t.nn (t.names.map tStr)), .t (.sl t.nl (encTys t.l)), .t (.v (.int .i64 t.r))])] [1, 4, 6] mixed (by kernel_rfl) (.of ⟨rfl, trivial⟩) ?_
    (apply D.f; rfl; rfl; rfl; intro hp_ n_)
    · (apply U.litT; rfl; rfl; rfl; rfl; rfl; rfl; rfl; rfl)
      repeat' (first | refine TriL.nil ?_ | exact ⟨rfl, rfl, rfl⟩ | fail)
    (apply D.e; rfl; rfl; rfl; rotate_left)
    · (apply U.make; rfl; trivial; rfl; trivial; rfl; rfl; rfl; omega; omega; decide; decide; rfl)
      repeat' (first | refine TriL.nil ?_ | exact ⟨rfl, rfl, rfl⟩ | fail)
    (apply D.f; rfl; rfl; rfl; intro hp_ n_)
    · repeat' (first | refine TriL.nil ?_ | exact ⟨rfl, rfl, rfl⟩ | (apply U.fld; rfl; trivial; rfl; infer_instance; decide; rfl) | fail)
    (apply D.fb; rfl; rfl; rfl; intro hp_ n_ hk_)
    · refine U.load rfl rfl trivial (hk_ 0 _ rfl) rfl rfl ?_
      repeat' (first | refine TriL.nil ?_ | exact ⟨rfl, rfl, rfl⟩ | fail)
    (apply D.e; rfl; rfl; rfl; rotate_left)
    · refine U.appOwn rfl rfl rfl rfl (SrcE.t rfl (leaves_all _)) ?_ ?_ rfl ?_
      · simp; omega
      · simp; omega
      repeat' (first | refine TriL.nil ?_ | exact ⟨rfl, rfl, rfl⟩ | fail)
    repeat' (first | refine TriL.nil ?_ | exact ⟨rfl, rfl, rfl⟩ | (apply D.v; rfl; rfl; rfl) | (apply U.build; rfl; rfl; rfl; rfl; rfl) | fail)
    (apply D.s; rfl; rfl; rfl; rotate_left)
    repeat' (first | refine TriL.nil ?_ | refine D.nil ?_ | (apply U.storeS; rfl; rfl; rfl; rfl; rfl; rfl; rfl; rfl) | refine Tri.ret ?_ | exact ⟨rfl, rfl⟩ | fail)
    · refine ComesC.of rfl rfl (ls' := [_, _, _, _]) rfl rfl (.tree rfl (.tree rfl (.froz rfl ?_ (.tree rfl .nil)))) ⟨[_, _, _, _], rfl, ?_⟩
      · simp; omega
      · rw [plainT, if_neg (by omega), if_neg (by omega), if_pos h]
        simp [encTy, encTys, tStr, nmNone, nmSome, ty0]
        exact List.take_of_length_le (by simp; omega)
    all_goals exact fun _ => .of ⟨rfl, trivial⟩
  · (apply U.litT; rfl; rfl; rfl; rfl; rfl; rfl; rfl; rfl)
    repeat' (first | refine TriL.nil ?_ | (apply U.load; rfl; rfl; trivial; rfl; rfl; rfl) | (apply U.fld; rfl; trivial; rfl; infer_instance; decide; rfl) | (apply U.storeS; rfl; rfl; rfl; rfl; rfl; rfl; rfl; rfl) | refine U.call1 rfl rfl (by assumption) rfl ?_ | refine Tri.ret ?_ | (apply U.build; rfl; rfl; rfl; rfl; rfl) | fail)
    refine ComesC.tree rfl rfl rfl rfl ?_
    rw [plainT, if_neg (by omega), if_neg (by omega), if_neg (by omega), if_pos h]; rfl
  · refine ComesC.tree rfl rfl rfl rfl ?_
    rw [plainT, if_neg (by omega), if_neg (by omega), if_neg (by omega), if_neg h, encTy_eta t]
end Go.Proofs.YtmhbibfkhbaclaaGreatDoor

/- Layer 13: what lay is, plainly. -/
namespace Go.Proofs.YtmhbibfkhbaclaaGreatDoor
open Go E
set_option maxRecDepth 100000
set_option maxHeartbeats 4000000
set_option linter.unusedVariables false
set_option linter.unusedSimpArgs false
def varEnd (f : Int) (v : Int × Int) : Int × Int := (upN (v.1 + upN f v.2) (max v.2 f), max v.2 f)
/-- By its kind: rc, vr: what its types are, one behind the other, one over the other. -/
def layK (k : Int) (nn nl : Nat) (rc vr : Int × Int) : Int × Int :=
  if k = 0 then (0, 1) else if k = 1 ∨ k = 2 ∨ k = 3 then (1, 1) else if k = 4 ∨ k = 5 then (2, 2) else if k = 8 ∨ k = 9 then (8, 8) else if k = 11 ∨ k = 12 then (8, 4)
  else if k = 19 then (bytesN (2 ^ nn), bytesN (2 ^ nn)) else if k = 13 ∨ k = 14 then (upN rc.1 rc.2, rc.2) else if k = 15 ∨ k = 18 then varEnd (bytesN nl) vr
  else if k = 16 then varEnd (bytesN nn) (0, 1) else if k = 17 then varEnd (bytesN (nl + 1 : Nat)) vr else (4, 4)
mutual
/-- A type's size and alignment. -/
def layN : Ty → Int × Int
  | .mk k _ ns _ l _ => layK k ns.length l.length (recF 0 1 l) (varF 0 1 l)
def recF : Int → Int → List Ty → Int × Int
  | s, a, [] => (s, a)
  | s, a, t :: ts => recF (upN s (layN t).2 + (layN t).1) (max a (layN t).2) ts
def varF : Int → Int → List Ty → Int × Int
  | s, a, [] => (s, a)
  | s, a, t :: ts => varF (max s (layN t).1) (max a (layN t).2) ts
end
/-- 1, 2, 4, 8. -/
def P2 (a : Int) : Prop := a = 1 ∨ a = 2 ∨ a = 4 ∨ a = 8
theorem P2.max {a b : Int} (h : P2 a) (k : P2 b) : P2 (max a b) := by
  rcases h with rfl | rfl | rfl | rfl <;> rcases k with rfl | rfl | rfl | rfl <;> simp [P2] <;> decide
theorem P2.pos {a : Int} (h : P2 a) : 1 ≤ a ∧ a ≤ 8 := by rcases h with rfl | rfl | rfl | rfl <;> decide
/-- How many types it is, as its owner counts. -/
def pw (t : Ty) : Int := if t.kind = 0 then 0 else partsN t
/-- Its size and alignment are small. -/
structure Sm (t : Ty) : Prop where
  al : P2 (layN t).2
  s0 : 0 ≤ (layN t).1
  s1 : (layN t).1 ≤ max 0 (16 * pw t - 8)
end Go.Proofs.YtmhbibfkhbaclaaGreatDoor

/- Layer 13, the code: lay. -/
namespace Go.Proofs.YtmhbibfkhbaclaaGreatDoor
open Go E
set_option maxRecDepth 100000
set_option maxHeartbeats 4000000
set_option linter.unusedVariables false
set_option linter.unusedSimpArgs false
attribute [local irreducible] Tri TriL TriO PO VO E.Pure DOb
/-- May a type be somewhere? -/
def Vd (t : Ty) : Prop := noneT t = true ∨ ∃ n, deepB t n = true
structure Dim (t : Ty) : Prop where
  nm : t.names.length ≤ 64
  l : t.l.length ≤ 64
  fl : t.kind = 19 → t.names.length ≤ 32
theorem own_dim {t : Ty} (h : ownB t = true) : Dim t := by
  unfold ownB at h
  refine ⟨?_, ?_, fun hk => ?_⟩
  · (repeat' split at h) <;> simp [namesB_iff, -List.length_eq_zero_iff] at h <;> omega
  · (repeat' split at h) <;> simp [namesB_iff, -List.length_eq_zero_iff] at h <;> omega
  · rw [hk] at h
    (repeat' split at h) <;> simp [namesB_iff, -List.length_eq_zero_iff] at h <;> omega
theorem noneT_spec {t : Ty} (h : noneT t = true) : t.kind = 0 ∧ t.l = [] ∧ t.names = [] := by
  simp [noneT] at h; exact ⟨h.1.1.1, h.2, h.1.2⟩
theorem Vd.dim {t : Ty} (h : Vd t) : Dim t := by
  rcases h with h | ⟨n, h⟩
  · obtain ⟨h1, h2, h3⟩ := noneT_spec h
    exact ⟨by simp [h3], by simp [h2], fun hk => by omega⟩
  · exact own_dim (deepB_own h)
theorem deepsB_mem {k : Int} {n : Int} : ∀ {l : List Ty}, deepsB k l n = true → ∀ x ∈ l, noneT x = true ∨ deepB x (n + 1) = true
  | [], _, x, hx => by simp at hx
  | t :: ts, h, x, hx => by
    simp only [deepsB, Bool.and_eq_true, Bool.or_eq_true] at h
    rcases List.mem_cons.1 hx with rfl | hx
    · rcases h.1 with h1 | h1
      · exact .inl h1.2
      · exact .inr h1
    · exact deepsB_mem h.2 x hx
theorem Vd.el {t x : Ty} (h : Vd t) (hx : x ∈ t.l) : Vd x := by
  rcases h with h | ⟨n, h⟩
  · rw [(noneT_spec h).2.1] at hx; simp at hx
  · rw [deepB_eq] at h
    simp only [Bool.and_eq_true] at h
    rcases deepsB_mem h.2 x hx with h1 | h1
    · exact .inl h1
    · exact .inr ⟨_, h1⟩
theorem plainT_el {t x : Ty} {z : Bool} (hx : x ∈ (plainT z t).l) : x = ty0 ∨ x ∈ t.l := by
  unfold plainT at hx
  split at hx
  · exact .inr hx
  · split at hx
    · exact .inl (List.eq_of_mem_replicate hx)
    · split at hx
      · exact List.mem_cons.1 hx
      · split at hx <;> exact .inr hx
theorem plainT_len {t : Ty} {z : Bool} (h : Dim t) : (plainT z t).l.length ≤ 65 ∧ ((plainT z t).kind = 19 → (plainT z t).names.length ≤ 32) := by
  have h1 := h.nm
  have h2 := h.l
  unfold plainT
  split
  · exact ⟨by show t.l.length ≤ 65; omega, fun e => by simp [Ty.kind] at e⟩
  · split
    · exact ⟨by show (List.replicate t.names.length ty0).length ≤ 65; rw [List.length_replicate]; omega, fun e => by simp [Ty.kind] at e⟩
    · split
      · exact ⟨by show (ty0 :: t.l).length ≤ 65; rw [List.length_cons]; omega, fun e => by simp [Ty.kind] at e⟩
      · split
        · exact ⟨by show t.l.length ≤ 65; omega, fun e => by simp [Ty.kind] at e⟩
        · exact ⟨by omega, h.fl⟩
end Go.Proofs.YtmhbibfkhbaclaaGreatDoor

/- Layer 13, the code: Flat, Places; the reference's Same. -/
namespace Go.Proofs.YtmhbibfkhbaclaaGreatDoor
open Go E
set_option maxRecDepth 100000
set_option maxHeartbeats 4000000
set_option linter.unusedVariables false
set_option linter.unusedSimpArgs false
attribute [local irreducible] Tri TriL TriO PO VO E.Pure DOb
theorem may_vd {t : Ty} (h : mayB t = true) : Vd t ∧ (t.kind ≠ 0 → partsN t ≤ 500) := by
  simp only [mayB, Bool.and_eq_true, decide_eq_true_eq] at h
  exact ⟨.inr ⟨0, h.1⟩, fun _ => h.2⟩
end Go.Proofs.YtmhbibfkhbaclaaGreatDoor

/- Layer 13: the reference's digits, next, Aligned. -/
namespace Go.Proofs.YtmhbibfkhbaclaaGreatDoor
open Go E
set_option maxRecDepth 100000
set_option maxHeartbeats 4000000
set_option linter.unusedVariables false
set_option linter.unusedSimpArgs false
attribute [local irreducible] Tri TriL TriO PO VO E.Pure DOb
theorem dig1i : ∀ n : Nat, n < 10 → IntKind.u8.wrap (48 + (n : Int)) = ((UInt8.ofNat (48 + n)).toNat : Int) := by decide +kernel
theorem dig2i : ∀ n : Nat, n < 100 → IntKind.u8.wrap (48 + (n : Int).tmod 10) = ((UInt8.ofNat (48 + n % 10)).toNat : Int) := by decide +kernel
theorem dig1 (n : Nat) (h : n < 10) : [T.v (.int .u8 (IntKind.u8.wrap (48 + (n : Int))))] = [UInt8.ofNat (48 + n)].map tByte := by rw [dig1i n h]; rfl
theorem dig2 (n : Nat) (h : n < 100) : [T.v (.int .u8 (IntKind.u8.wrap (48 + (n : Int).tmod 10)))] = [UInt8.ofNat (48 + n % 10)].map tByte := by rw [dig2i n h]; rfl
theorem dig3 : ∀ n : Nat, n < 100 → ¬ n < 10 → (digT (n / 10) ++ ⟨[UInt8.ofNat (48 + n % 10)].toArray⟩ : ByteArray) = digT n := by
  intro n h h2
  have h3 : n / 10 < 10 := by omega
  rw [digT, digT, if_pos h3, if_neg h2]; rfl
theorem digits_p (n : Nat) (h100 : n < 100) : E.Pure Tryz.prog 60 [tInt n] (.one (.t (tStr (digT n)))) := by
  have small : ∀ n : Nat, n < 10 → E.Pure Tryz.prog 60 [tInt n] (.one (.t (tStr (digT n)))) := fun n h10 => by
    refine Pure.of1 Tryz.func60 rfl rfl (Nat.le_of_ble_eq_true rfl) rfl ?_
    repeat' (first | refine Tri.seq ?_ | refine Tri.reg ?_ | refine TriL.nil ?_ | (apply U.moveT; rfl; trivial; rfl) | (apply U.assignT; rfl; trivial; rfl) | (apply U.add; rfl; trivial; rfl; trivial; exact fun _ => wrap_i64 (by omega) (by omega); rfl) | (apply U.bin; rfl; trivial; rfl; trivial; rfl; rfl) | (apply U.conv; rfl; trivial; rfl; rfl) | refine Tri.skip ?_ | (refine Tri.cond rfl (fun h => ?_) (fun h => ?_) <;> (try simp at h) <;> (try contradiction)) | fail)
    · (apply U.litT; rfl; rfl; rfl; rfl; rfl; rfl; rfl; rfl)
      skip
      refine U.b2s rfl trivial (dig1 n h10) rfl ?_
      repeat' (first | refine TriL.nil ?_ | (apply U.assignT; rfl; trivial; rfl) | refine Tri.ret ?_ | fail)
      refine Comes1.ret rfl ?_
      rw [digT, if_pos h10]; rfl
    · exfalso; omega
  by_cases h2 : n < 10
  · exact small n h2
  have hr := small (n / 10) (by omega)
  have hq : IntKind.i64.wrap ((n : Int).tdiv 10) = ((n / 10 : Nat) : Int) := by
    rw [Int.tdiv_eq_ediv_of_nonneg (by omega), wrap_i64 (by omega) (by omega)]; omega
  have ht : 0 ≤ (n : Int).tmod 10 ∧ (n : Int).tmod 10 < 10 := by rw [Int.tmod_eq_emod_of_nonneg (by omega)]; omega
  refine Pure.of1 Tryz.func60 rfl rfl (Nat.le_of_ble_eq_true rfl) rfl ?_
  repeat' (first | refine Tri.seq ?_ | refine Tri.reg ?_ | refine TriL.nil ?_ | (apply U.moveT; rfl; trivial; rfl) | (apply U.assignT; rfl; trivial; rfl) | (apply U.add; rfl; trivial; rfl; trivial; exact fun _ => wrap_i64 (by omega) (by omega); rfl) | (apply U.bin; rfl; trivial; rfl; trivial; rfl; rfl) | (apply U.conv; rfl; trivial; rfl; rfl) | refine Tri.skip ?_ | (refine Tri.cond rfl (fun h => ?_) (fun h => ?_) <;> (try simp at h) <;> (try contradiction)) | fail)
  · exfalso; omega
  refine Tri.regD [] mixed (by kernel_rfl) ?_
  repeat' (first | refine TriL.nil ?_ | exact ⟨rfl, rfl, rfl⟩ | (apply D.v; rfl; rfl; rfl) | refine D.nil ?_ | (apply U.moveT; rfl; trivial; rfl) | (apply U.add; rfl; trivial; rfl; trivial; exact fun _ => wrap_i64 (by omega) (by omega); rfl) | (apply U.quo; rfl; trivial; rfl; trivial; exact fun _ => (by omega); exact fun _ => (by assumption); rfl) | (apply U.rem; rfl; trivial; rfl; trivial; exact fun _ => (by omega); rfl) | (apply U.conv; rfl; trivial; rfl; rfl) | refine U.call1 rfl rfl (by assumption) rfl ?_ | refine Tri.ret ?_ | fail)
  · (apply U.litT; rfl; rfl; rfl; rfl; rfl; rfl; rfl; rfl)
    repeat' (first | refine TriL.nil ?_ | exact ⟨rfl, rfl, rfl⟩ | fail)
  skip
  · refine U.b2s rfl trivial (dig2 n h100) rfl ?_
    repeat' (first | refine TriL.nil ?_ | exact ⟨rfl, rfl, rfl⟩ | fail)
  skip
  · refine U.cat rfl trivial rfl trivial (fun _ => ?_) rfl ?_
    · simp [digT]; split <;> simp [ByteArray.size]
    repeat' (first | refine TriL.nil ?_ | exact ⟨rfl, rfl, rfl⟩ | fail)
  repeat' (first | refine TriL.nil ?_ | exact ⟨rfl, rfl, rfl⟩ | (apply U.assignT; rfl; trivial; rfl) | fail)
  refine Comes1.ret rfl ?_
  rw [dig3 n h100 h2]; rfl
end Go.Proofs.YtmhbibfkhbaclaaGreatDoor

/- Layer 13: the reference's Inside, Sized. -/
namespace Go.Proofs.YtmhbibfkhbaclaaGreatDoor
open Go E
set_option maxRecDepth 100000
set_option maxHeartbeats 4000000
set_option linter.unusedVariables false
set_option linter.unusedSimpArgs false
attribute [local irreducible] Tri TriL TriO PO VO E.Pure DOb
theorem Vd.kinds {t : Ty} (h : Vd t) : t.kind = 0 ∧ t.l = [] ∨ 1 ≤ t.kind ∧ t.kind ≤ 21 ∧ ownB t = true := by
  rcases h with h | ⟨n, h⟩
  · obtain ⟨h1, h2, h3⟩ := noneT_spec h
    exact .inl ⟨h1, h2⟩
  · have h2 := deepB_own h
    refine .inr ⟨?_, ?_, h2⟩ <;> (unfold ownB at h2; (repeat' split at h2) <;> simp at h2 <;> omega)
end Go.Proofs.YtmhbibfkhbaclaaGreatDoor

/- Layer 13: the reference's Plain. -/
namespace Go.Proofs.YtmhbibfkhbaclaaGreatDoor
open Go E
set_option maxRecDepth 100000
set_option maxHeartbeats 4000000
set_option linter.unusedVariables false
set_option linter.unusedSimpArgs false
attribute [local irreducible] Tri TriL TriO PO VO E.Pure DOb
theorem plainR_p (t : Ty) (h1 : t.names.length ≤ 64) (h2 : t.l.length ≤ 64) : E.Pure Tryz.prog 37 [encTy t] (.one (.t (encTy (plainT true t)))) := by
  have hlen := encTys_length t.l
  have hlen2 : (t.names.map tStr).length = t.names.length := by simp
  refine Pure.ofC rfl Tryz.func37 rfl rfl (Nat.le_of_ble_eq_true rfl) rfl ?_
  rw [encTy_eta t]
  repeat' (first | refine Tri.seq ?_ | refine Tri.reg ?_ | refine TriL.nil ?_ | (apply U.assignT; rfl; trivial; rfl) | (apply U.load; rfl; rfl; trivial; rfl; rfl; rfl) | (apply U.fld; rfl; trivial; rfl; infer_instance; decide; rfl) | (apply U.bin; rfl; trivial; rfl; trivial; rfl; rfl) | (apply U.loadS; rfl; rfl; trivial; rfl; rfl; rfl; rfl; rfl) | (apply U.boxA; rfl; rfl) | (apply U.alloc; rfl; rfl; rfl; rfl) | (apply U.storeS; rfl; rfl; rfl; rfl; rfl; rfl; rfl; rfl) | refine Tri.skip ?_ | refine Tri.block ?_ | refine Tri.ret ?_ | (apply U.build; rfl; rfl; rfl; rfl; rfl) | (refine Tri.cond rfl (fun h => ?_) (fun h => ?_) <;> (try simp at h) <;> (try contradiction)) | fail)
  · -- a tuple
    have h14 := h
    refine Tri.loopL (fun i => match i with
        | 0 => ⟨[(4, .t (tInt ((0 : Nat) : Int))), (3, .ptr 2 0), (2, .ptr 1 0), (1, .ptr 0 0)], Tryz.f37.ntmps, [(2, .obj [.t (tInt 13), .t (.sl true []), .t (.sl true []), .t (tInt 0)]), (1, .obj [.t (tInt 0), .t (.sl true []), .t (.sl true []), .t (tInt 0)]), (0, .obj [.t (.v (.int .i64 t.kind)), .t (.sl t.nn (t.names.map tStr)), .t (.sl t.nl (encTys t.l)), .t (.v (.int .i64 t.r))])], 0, 3⟩
        | k + 1 => ⟨[(4, .t (tInt ((k + 1 : Nat) : Int))), (3, .ptr 2 0), (2, .ptr 1 0), (1, .ptr 0 0)], Tryz.f37.ntmps, [(2, .obj [.t (tInt 13), .ref 3 1 0 (k + 1) (k + 1), .ref 4 4 0 (k + 1) (k + 1), .t (tInt 0)]), (1, .obj [.t (tInt 0), .t (.sl true []), .t (.sl true []), .t (tInt 0)]), (0, .obj [.t (.v (.int .i64 t.kind)), .t (.sl t.nn (t.names.map tStr)), .t (.sl t.nl (encTys t.l)), .t (.v (.int .i64 t.r))]), (3, .row 1 ((digs (k + 1)).map tStr) false), (4, .row 4 (encTys (t.l.take (k + 1))) false)], 0, 5⟩)
      (fun i => i ≤ t.l.length) (fun i => t.l.length - i) 0 (Nat.zero_le _) ?_ ?_
    · exact Sub.less (Sub.of rfl rfl ⟨rfl, rfl, rfl, rfl, trivial⟩ ⟨rfl, rfl, rfl, trivial⟩)
    rintro (_ | k) hi
    · repeat' (first | refine Tri.seq ?_ | refine Tri.reg ?_ | refine TriL.nil ?_ | (apply U.moveT; rfl; trivial; rfl) | (apply U.assignT; rfl; trivial; rfl) | (apply U.load; rfl; rfl; trivial; rfl; rfl; rfl) | (apply U.fld; rfl; trivial; rfl; infer_instance; decide; rfl) | (apply U.bin; rfl; trivial; rfl; trivial; rfl; rfl) | (apply U.len; rfl; trivial; rfl) | (apply U.loadS; rfl; rfl; trivial; rfl; rfl; rfl; rfl; rfl) | (apply U.storeS; rfl; rfl; rfl; rfl; rfl; rfl; rfl; rfl) | refine Tri.skip ?_ | refine Tri.block ?_ | refine Tri.exit ?_ | refine Tri.ret ?_ | (apply U.build; rfl; rfl; rfl; rfl; rfl) | (refine Tri.cond rfl (fun h => ?_) (fun h => ?_) <;> (try simp at h) <;> (try contradiction)) | fail)
      · have hlt : 0 < t.l.length := by omega
        have hget := get_ty hlt
        have hit := digits_p 0 (by omega)
        refine Tri.regD [5, 7] mixed (by kernel_rfl) ?_
        repeat' (first | refine TriL.nil ?_ | exact ⟨rfl, rfl, rfl⟩ | (apply D.v; rfl; rfl; rfl) | (apply U.moveT; rfl; trivial; rfl) | (apply U.load; rfl; rfl; trivial; rfl; rfl; rfl) | (apply U.fld; rfl; trivial; rfl; infer_instance; decide; rfl) | refine U.call1 rfl rfl (by assumption) rfl ?_ | fail)
        · (apply U.litT; rfl; rfl; rfl; rfl; rfl; rfl; rfl; rfl)
          repeat' (first | refine TriL.nil ?_ | exact ⟨rfl, rfl, rfl⟩ | fail)
        skip
        (apply D.e; rfl; rfl; rfl; rotate_left)
        · refine U.appNil rfl (SrcE.t rfl rfl) Nat.zero_lt_one (Nat.le_of_ble_eq_true rfl) (Nat.le_of_ble_eq_true rfl) rfl ?_
          repeat' (first | refine TriL.nil ?_ | exact ⟨rfl, rfl, rfl⟩ | fail)
        repeat' (first | refine TriL.nil ?_ | exact ⟨rfl, rfl, rfl⟩ | (apply D.v; rfl; rfl; rfl) | (apply U.fld; rfl; trivial; rfl; infer_instance; decide; rfl) | fail)
        (apply D.s; rfl; rfl; rfl; rotate_left)
        repeat' (first | refine TriL.nil ?_ | refine D.nil ?_ | (apply U.store; rfl; rfl; rfl; rfl; rfl; rfl; rfl) | exact ⟨rfl, rfl⟩ | fail)
        · refine Tri.regD [8, 10] mixed (by kernel_rfl) ?_
          repeat' (first | refine TriL.nil ?_ | exact ⟨rfl, rfl, rfl⟩ | (apply D.v; rfl; rfl; rfl) | (apply U.moveT; rfl; trivial; rfl) | (apply U.load; rfl; rfl; trivial; rfl; rfl; rfl) | (apply U.fld; rfl; trivial; rfl; infer_instance; decide; rfl) | (apply U.loadES; rfl; rfl; trivial; rfl; rfl; rfl) | (apply U.idx; rfl; trivial; rfl; trivial; exact fun _ => (by omega); exact fun _ => (by assumption); exact fun _ => rfl; rfl) | fail)
          · (apply U.litT; rfl; rfl; rfl; rfl; rfl; rfl; rfl; rfl)
            repeat' (first | refine TriL.nil ?_ | exact ⟨rfl, rfl, rfl⟩ | fail)
          skip
          (apply D.e; rfl; rfl; rfl; rotate_left)
          · refine U.appNil rfl (SrcE.t rfl rfl) Nat.zero_lt_one (Nat.le_of_ble_eq_true rfl) (Nat.le_of_ble_eq_true rfl) rfl ?_
            repeat' (first | refine TriL.nil ?_ | exact ⟨rfl, rfl, rfl⟩ | fail)
          repeat' (first | refine TriL.nil ?_ | exact ⟨rfl, rfl, rfl⟩ | (apply D.v; rfl; rfl; rfl) | (apply U.fld; rfl; trivial; rfl; infer_instance; decide; rfl) | fail)
          (apply D.s; rfl; rfl; rfl; rotate_left)
          repeat' (first | refine Tri.reg ?_ | refine TriL.nil ?_ | refine D.nil ?_ | (apply U.moveT; rfl; trivial; rfl) | (apply U.assignT; rfl; trivial; rfl) | (apply U.add; rfl; trivial; rfl; trivial; exact fun _ => wrap_i64 (by omega) (by omega); rfl) | (apply U.store; rfl; rfl; rfl; rfl; rfl; rfl; rfl) | exact ⟨rfl, rfl⟩ | fail)
          · refine ⟨0 + 1, hlt, by omega, ?_⟩
            refine Less.ren (fun b => if b = 3 then 3 else if b = 4 then 4 else b) rfl rfl ⟨rfl, rfl, rfl, rfl, trivial⟩ ⟨rfl, rfl, rfl, ?_, ?_, trivial⟩ rfl rfl rfl
            · rfl
            · rw [show t.l.take (0 + 1) = [t.l[0]] from (by rw [List.take_succ_eq_append_getElem hlt]; rfl), encTys, encTys, encTy_eta]; rfl
          all_goals first | (exact fun _ => .of ⟨rfl, rfl, trivial⟩) | (exact fun _ => .nil) | (intro h_; cases h_)
        all_goals first | (exact fun _ => .of ⟨rfl, rfl, trivial⟩) | (exact fun _ => .nil) | (intro h_; cases h_)
      · exfalso; omega
      · exfalso; omega
      · exfalso; omega
      · -- the end
        have hz : t.l.length = 0 := by first | omega | exact List.length_eq_zero_iff.2 (by assumption) | (have h0_ : encTys t.l = [] := (by assumption); rw [h0_] at hlen; exact hlen.symm)
        refine ComesC.tree rfl rfl rfl rfl ?_
        rw [plainT, if_pos (by assumption)]
        have : t.l = [] := List.length_eq_zero_iff.1 hz
        rw [this]; rfl
    · repeat' (first | refine Tri.seq ?_ | refine Tri.reg ?_ | refine TriL.nil ?_ | (apply U.moveT; rfl; trivial; rfl) | (apply U.assignT; rfl; trivial; rfl) | (apply U.load; rfl; rfl; trivial; rfl; rfl; rfl) | (apply U.fld; rfl; trivial; rfl; infer_instance; decide; rfl) | (apply U.bin; rfl; trivial; rfl; trivial; rfl; rfl) | (apply U.len; rfl; trivial; rfl) | (apply U.loadS; rfl; rfl; trivial; rfl; rfl; rfl; rfl; rfl) | (apply U.storeS; rfl; rfl; rfl; rfl; rfl; rfl; rfl; rfl) | refine Tri.skip ?_ | refine Tri.block ?_ | refine Tri.exit ?_ | refine Tri.ret ?_ | (apply U.build; rfl; rfl; rfl; rfl; rfl) | (refine Tri.cond rfl (fun h => ?_) (fun h => ?_) <;> (try simp at h) <;> (try contradiction)) | fail)
      · have hlt : k + 1 < t.l.length := by omega
        have hget := get_ty hlt
        have hit := digits_p (k + 1) (by omega)
        refine Tri.regD [5, 7] mixed (by kernel_rfl) ?_
        repeat' (first | refine TriL.nil ?_ | exact ⟨rfl, rfl, rfl⟩ | (apply D.v; rfl; rfl; rfl) | (apply U.moveT; rfl; trivial; rfl) | (apply U.load; rfl; rfl; trivial; rfl; rfl; rfl) | (apply U.fld; rfl; trivial; rfl; infer_instance; decide; rfl) | refine U.call1 rfl rfl (by assumption) rfl ?_ | fail)
        · (apply U.litT; rfl; rfl; rfl; rfl; rfl; rfl; rfl; rfl)
          repeat' (first | refine TriL.nil ?_ | exact ⟨rfl, rfl, rfl⟩ | fail)
        skip
        (apply D.e; rfl; rfl; rfl; rotate_left)
        · refine U.appOwn rfl rfl (by simp [digs]) (by simp [digs]) (SrcE.t rfl rfl) (by simp; omega) (by simp; omega) rfl ?_
          repeat' (first | refine TriL.nil ?_ | exact ⟨rfl, rfl, rfl⟩ | fail)
        repeat' (first | refine TriL.nil ?_ | exact ⟨rfl, rfl, rfl⟩ | (apply D.v; rfl; rfl; rfl) | (apply U.fld; rfl; trivial; rfl; infer_instance; decide; rfl) | fail)
        (apply D.s; rfl; rfl; rfl; rotate_left)
        repeat' (first | refine TriL.nil ?_ | refine D.nil ?_ | (apply U.store; rfl; rfl; rfl; rfl; rfl; rfl; rfl) | exact ⟨rfl, rfl⟩ | fail)
        · refine Tri.regD [8, 10] mixed (by kernel_rfl) ?_
          repeat' (first | refine TriL.nil ?_ | exact ⟨rfl, rfl, rfl⟩ | (apply D.v; rfl; rfl; rfl) | (apply U.moveT; rfl; trivial; rfl) | (apply U.load; rfl; rfl; trivial; rfl; rfl; rfl) | (apply U.fld; rfl; trivial; rfl; infer_instance; decide; rfl) | (apply U.loadES; rfl; rfl; trivial; rfl; rfl; rfl) | (apply U.idx; rfl; trivial; rfl; trivial; exact fun _ => (by omega); exact fun _ => (by assumption); exact fun _ => rfl; rfl) | fail)
          · (apply U.litT; rfl; rfl; rfl; rfl; rfl; rfl; rfl; rfl)
            repeat' (first | refine TriL.nil ?_ | exact ⟨rfl, rfl, rfl⟩ | fail)
          skip
          (apply D.e; rfl; rfl; rfl; rotate_left)
          · refine U.appOwn rfl rfl (by simp [encTys_length]; omega) (by simp [encTys_length]; omega) (SrcE.t rfl rfl) (by simp; omega) (by simp; omega) rfl ?_
            repeat' (first | refine TriL.nil ?_ | exact ⟨rfl, rfl, rfl⟩ | fail)
          repeat' (first | refine TriL.nil ?_ | exact ⟨rfl, rfl, rfl⟩ | (apply D.v; rfl; rfl; rfl) | (apply U.fld; rfl; trivial; rfl; infer_instance; decide; rfl) | fail)
          (apply D.s; rfl; rfl; rfl; rotate_left)
          repeat' (first | refine Tri.reg ?_ | refine TriL.nil ?_ | refine D.nil ?_ | (apply U.moveT; rfl; trivial; rfl) | (apply U.assignT; rfl; trivial; rfl) | (apply U.add; rfl; trivial; rfl; trivial; exact fun _ => wrap_i64 (by omega) (by omega); rfl) | (apply U.store; rfl; rfl; rfl; rfl; rfl; rfl; rfl) | exact ⟨rfl, rfl⟩ | fail)
          · refine ⟨k + 1 + 1, hlt, by omega, ?_⟩
            refine Less.ren (fun b => if b = 3 then 5 else if b = 4 then 6 else b) rfl rfl ⟨rfl, rfl, rfl, rfl, trivial⟩ ⟨rfl, rfl, rfl, ?_, ?_, trivial⟩ rfl rfl rfl
            · rw [show (digs (k + 1 + 1)).map tStr = (digs (k + 1)).map tStr ++ [tStr (digT (k + 1))] from (by simp [digs, List.range_succ])]; rfl
            · rw [List.take_succ_eq_append_getElem hlt, encTys_app, encTys, encTys, encTy_eta]; rfl
          all_goals first | (exact fun _ => .of ⟨rfl, rfl, trivial⟩) | (exact fun _ => .nil) | (intro h_; cases h_)
        all_goals first | (exact fun _ => .of ⟨rfl, rfl, trivial⟩) | (exact fun _ => .nil) | (intro h_; cases h_)
      · exfalso; omega
      · exfalso; omega
      · exfalso; omega
      · -- the end
        have hz : t.l.length = k + 1 := by omega
        refine ComesC.of rfl rfl (ls' := [_, _, _, _]) rfl rfl (.tree rfl (.froz rfl ?_ (.froz rfl ?_ (.tree rfl .nil)))) ⟨[_, _, _, _], rfl, ?_⟩
        · simp [digs]
        · simp [encTys_length]; omega
        · rw [plainT, if_pos (by assumption)]
          have : t.l.isEmpty = false := by cases hl : t.l <;> simp_all
          rw [this, encTy, hz]
          simp [digs, List.take_of_length_le, hz]
          exact ⟨rfl, List.take_of_length_le (by rw [encTys_length]; omega), rfl⟩
  · -- an enum
    have h16 := h
    refine Tri.loopL (fun i => match i with
        | 0 => ⟨[(5, .t (tInt ((0 : Nat) : Int))), (3, .ptr 2 0), (2, .ptr 1 0), (1, .ptr 0 0)], Tryz.f37.ntmps, [(2, .obj [.t (tInt 15), .t (.sl t.nn (t.names.map tStr)), .t (.sl true []), .t (tInt 0)]), (1, .obj [.t (tInt 0), .t (.sl true []), .t (.sl true []), .t (tInt 0)]), (0, .obj [.t (.v (.int .i64 t.kind)), .t (.sl t.nn (t.names.map tStr)), .t (.sl t.nl (encTys t.l)), .t (.v (.int .i64 t.r))])], 0, 3⟩
        | k + 1 => ⟨[(5, .t (tInt ((k + 1 : Nat) : Int))), (3, .ptr 2 0), (2, .ptr 1 0), (1, .ptr 0 0)], Tryz.f37.ntmps, [(2, .obj [.t (tInt 15), .t (.sl t.nn (t.names.map tStr)), .ref 3 4 0 (k + 1) (k + 1), .t (tInt 0)]), (1, .obj [.t (tInt 0), .t (.sl true []), .t (.sl true []), .t (tInt 0)]), (0, .obj [.t (.v (.int .i64 t.kind)), .t (.sl t.nn (t.names.map tStr)), .t (.sl t.nl (encTys t.l)), .t (.v (.int .i64 t.r))]), (3, .row 4 (encTys (List.replicate (k + 1) ty0)) false)], 0, 4⟩)
      (fun i => i ≤ t.names.length) (fun i => t.names.length - i) 0 (Nat.zero_le _) ?_ ?_
    · exact Sub.less (Sub.of rfl rfl ⟨rfl, rfl, rfl, rfl, trivial⟩ ⟨rfl, rfl, rfl, trivial⟩)
    rintro (_ | k) hi
    · repeat' (first | refine Tri.seq ?_ | refine Tri.reg ?_ | refine TriL.nil ?_ | (apply U.moveT; rfl; trivial; rfl) | (apply U.load; rfl; rfl; trivial; rfl; rfl; rfl) | (apply U.fld; rfl; trivial; rfl; infer_instance; decide; rfl) | (apply U.bin; rfl; trivial; rfl; trivial; rfl; rfl) | (apply U.len; rfl; trivial; rfl) | (apply U.loadS; rfl; rfl; trivial; rfl; rfl; rfl; rfl; rfl) | (apply U.storeS; rfl; rfl; rfl; rfl; rfl; rfl; rfl; rfl) | refine Tri.skip ?_ | refine Tri.block ?_ | refine Tri.exit ?_ | refine Tri.ret ?_ | (apply U.build; rfl; rfl; rfl; rfl; rfl) | (refine Tri.cond rfl (fun h => ?_) (fun h => ?_) <;> (try simp at h) <;> (try contradiction)) | fail)
      · (apply U.litT; rfl; rfl; rfl; rfl; rfl; rfl; rfl; rfl)
        skip
        refine U.appNil rfl (SrcE.t rfl rfl) Nat.zero_lt_one (Nat.le_of_ble_eq_true rfl) (Nat.le_of_ble_eq_true rfl) rfl ?_
        repeat' (first | refine Tri.reg ?_ | refine TriL.nil ?_ | (apply U.moveT; rfl; trivial; rfl) | (apply U.assignT; rfl; trivial; rfl) | (apply U.fld; rfl; trivial; rfl; infer_instance; decide; rfl) | (apply U.add; rfl; trivial; rfl; trivial; exact fun _ => wrap_i64 (by omega) (by omega); rfl) | (apply U.store; rfl; rfl; rfl; rfl; rfl; rfl; rfl) | fail)
        exact ⟨0 + 1, by omega, by omega, Less.ren (fun b => b) rfl rfl ⟨rfl, rfl, rfl, rfl, trivial⟩ ⟨rfl, rfl, rfl, rfl, trivial⟩ rfl rfl rfl⟩
      · exfalso; omega
      · exfalso; omega
      · refine ComesC.tree rfl rfl rfl rfl ?_
        have hz : t.names = [] := by first | assumption | exact List.length_eq_zero_iff.1 (by omega)
        rw [plainT, if_neg (by omega), if_pos (by assumption), hz]; rfl
    · repeat' (first | refine Tri.seq ?_ | refine Tri.reg ?_ | refine TriL.nil ?_ | (apply U.moveT; rfl; trivial; rfl) | (apply U.load; rfl; rfl; trivial; rfl; rfl; rfl) | (apply U.fld; rfl; trivial; rfl; infer_instance; decide; rfl) | (apply U.bin; rfl; trivial; rfl; trivial; rfl; rfl) | (apply U.len; rfl; trivial; rfl) | (apply U.loadS; rfl; rfl; trivial; rfl; rfl; rfl; rfl; rfl) | (apply U.storeS; rfl; rfl; rfl; rfl; rfl; rfl; rfl; rfl) | refine Tri.skip ?_ | refine Tri.block ?_ | refine Tri.exit ?_ | refine Tri.ret ?_ | (apply U.build; rfl; rfl; rfl; rfl; rfl) | (refine Tri.cond rfl (fun h => ?_) (fun h => ?_) <;> (try simp at h) <;> (try contradiction)) | fail)
      · (apply U.litT; rfl; rfl; rfl; rfl; rfl; rfl; rfl; rfl)
        skip
        refine U.appOwn rfl rfl (by simp [encTys_length]) (by simp [encTys_length]) (SrcE.t rfl rfl) (by simp; omega) (by simp; omega) rfl ?_
        repeat' (first | refine Tri.reg ?_ | refine TriL.nil ?_ | (apply U.moveT; rfl; trivial; rfl) | (apply U.assignT; rfl; trivial; rfl) | (apply U.fld; rfl; trivial; rfl; infer_instance; decide; rfl) | (apply U.add; rfl; trivial; rfl; trivial; exact fun _ => wrap_i64 (by omega) (by omega); rfl) | (apply U.store; rfl; rfl; rfl; rfl; rfl; rfl; rfl) | fail)
        refine ⟨k + 1 + 1, by omega, by omega, ?_⟩
        refine Less.ren (fun b => if b = 3 then 4 else b) rfl rfl ⟨rfl, rfl, rfl, rfl, trivial⟩ ⟨rfl, rfl, rfl, ?_, trivial⟩ rfl rfl rfl
        rw [List.replicate_succ' (n := k + 1), encTys_app, encTys, encTys]; rfl
      · exfalso; omega
      · exfalso; omega
      · have hz : t.names.length = k + 1 := by omega
        refine ComesC.of rfl rfl (ls' := [_, _, _, _]) rfl rfl (.tree rfl (.tree rfl (.froz rfl ?_ (.tree rfl .nil)))) ⟨[_, _, _, _], rfl, ?_⟩
        · simp [encTys_length]
        · rw [plainT, if_neg (by omega), if_pos (by assumption), encTy, hz]
          have : t.names.isEmpty = false := by cases hl : t.names <;> simp_all
          rw [this]
          simp
          exact ⟨rfl, List.take_of_length_le (by rw [encTys_length]; simp), rfl⟩
  · -- an option
    (apply U.litT; rfl; rfl; rfl; rfl; rfl; rfl; rfl; rfl)
    repeat' (first | (apply U.build; rfl; rfl; rfl; rfl; rfl) | fail)
    (apply U.lit; rfl; rfl; rfl; rfl; rfl; rfl; rfl; rfl)
    repeat' (first | refine Tri.reg ?_ | refine TriL.nil ?_ | (apply U.load; rfl; rfl; trivial; rfl; rfl; rfl) | (apply U.fld; rfl; trivial; rfl; infer_instance; decide; rfl) | (apply U.storeS; rfl; rfl; rfl; rfl; rfl; rfl; rfl; rfl) | (apply U.build; rfl; rfl; rfl; rfl; rfl) | fail)
    refine U.appOwn rfl rfl rfl rfl (SrcE.t rfl (leaves_all _)) ?_ ?_ rfl ?_
    · skip
      omega
    · omega
    repeat' (first | refine Tri.seq ?_ | refine Tri.reg ?_ | refine TriL.nil ?_ | (apply U.load; rfl; rfl; trivial; rfl; rfl; rfl) | (apply U.fld; rfl; trivial; rfl; infer_instance; decide; rfl) | (apply U.bin; rfl; trivial; rfl; trivial; rfl; rfl) | (apply U.loadS; rfl; rfl; trivial; rfl; rfl; rfl; rfl; rfl) | (apply U.store; rfl; rfl; rfl; rfl; rfl; rfl; rfl) | (apply U.storeS; rfl; rfl; rfl; rfl; rfl; rfl; rfl; rfl) | refine Tri.skip ?_ | refine Tri.ret ?_ | (refine Tri.cond rfl (fun h => ?_) (fun h => ?_) <;> (try simp at h) <;> (try contradiction)) | fail)
    · exfalso; omega
    · refine ComesC.of rfl rfl (ls' := [_, _, _, _]) rfl rfl (.tree rfl (.tree rfl (.froz rfl ?_ (.tree rfl .nil)))) ⟨[_, _, _, _], rfl, ?_⟩
      · simp; omega
      · rw [plainT, if_neg (by omega), if_neg (by omega), if_pos (by assumption)]
        simp [encTy, encTys, tStr, nmNone, nmSome, ty0]
        exact List.take_of_length_le (by simp; omega)
  · (apply U.litT; rfl; rfl; rfl; rfl; rfl; rfl; rfl; rfl)
    repeat' (first | refine Tri.seq ?_ | refine Tri.reg ?_ | refine TriL.nil ?_ | (apply U.load; rfl; rfl; trivial; rfl; rfl; rfl) | (apply U.fld; rfl; trivial; rfl; infer_instance; decide; rfl) | (apply U.loadS; rfl; rfl; trivial; rfl; rfl; rfl; rfl; rfl) | (apply U.storeS; rfl; rfl; rfl; rfl; rfl; rfl; rfl; rfl) | refine Tri.ret ?_ | (apply U.build; rfl; rfl; rfl; rfl; rfl) | fail)
    refine ComesC.tree rfl rfl rfl rfl ?_
    rw [plainT, if_neg (by omega), if_neg (by omega), if_neg (by omega), if_pos h]; rfl
  · refine ComesC.tree rfl rfl rfl rfl ?_
    rw [plainT, if_neg (by omega), if_neg (by omega), if_neg (by omega), if_neg h, encTy_eta t]
end Go.Proofs.YtmhbibfkhbaclaaGreatDoor
