/- Layer 13, the code: Plain. -/
import Derived.Test.YtaplmmhkpljmkaaDoorC12
namespace Go.Proofs.YtaplmmhkpljmkaaDoor
open Go E
set_option maxRecDepth 100000
set_option maxHeartbeats 4000000
set_option linter.unusedVariables false
set_option linter.unusedSimpArgs false
attribute [local irreducible] Tri TriL TriO PO VO E.Pure DOb
def ty0 : Ty := .mk 0 true [] true [] 0
def nmNone : ByteArray := ⟨#[110, 111, 110, 101]⟩
def nmSome : ByteArray := ⟨#[115, 111, 109, 101]⟩
def nmOk : ByteArray := ⟨#[111, 107]⟩
def nmError : ByteArray := ⟨#[101, 114, 114, 111, 114]⟩
def digs (n : Nat) : List ByteArray := (List.range n).map digT
/-- Plain; z: is the list of types of a variant without cases nil? -/
def plainT (z : Bool) (t : Ty) : Ty :=
  if t.kind = 14 then .mk 13 t.l.isEmpty (digs t.l.length) t.l.isEmpty t.l 0
  else if t.kind = 16 then .mk 15 t.nn t.names (z && t.names.isEmpty) (List.replicate t.names.length ty0) 0
  else if t.kind = 17 then .mk 15 false [nmNone, nmSome] false (ty0 :: t.l) 0
  else if t.kind = 18 then .mk 15 false [nmOk, nmError] t.nl t.l 0
  else t
theorem encTys_rep (n : Nat) (t : Ty) : encTys (List.replicate n t) = List.replicate n (encTy t) := by
  induction n with
  | zero => rfl
  | succ n ih => rw [List.replicate_succ, List.replicate_succ, encTys, ih]
theorem encTys_app : ∀ (a b : List Ty), encTys (a ++ b) = encTys a ++ encTys b
  | [], b => rfl
  | t :: a, b => by simp [encTys, encTys_app a b]
theorem leaves_all (l : List Ty) : ((encTys l).all fun x => x.leaves.length == 4) = true := by
  induction l with
  | nil => rfl
  | cons t l ih => simp [encTys, leaves_encTy, ih]
theorem leaves_str (l : List ByteArray) : ((l.map tStr).all fun x => x.leaves.length == 1) = true := by
  simp [tStr, T.leaves]
structure Wf (t : Ty) : Prop where
  nn : t.nn = true → t.names = []
  nl : t.nl = true → t.l = []
theorem wf_sl {F : FMem} {n : Bool} {xs : List T} {v : Value} (h : TR F (.sl n xs) v) : n = true → xs = [] := by
  cases h with
  | nil => intro _; rfl
  | sl0 => intro _; rfl
  | sl => intro h; cases h
theorem wf_ty {F : FMem} {t : Ty} {v : Value} (h : TR F (encTy t) v) : Wf t := by
  rw [encTy_eta] at h
  cases h with
  | @agg xs vs hn h =>
    have hs : vs.size = 4 := by simpa using hn.symm
    have h1 := h 1 _ vs[1] rfl (Array.getElem?_eq_getElem (by omega))
    have h2 := h 2 _ vs[2] rfl (Array.getElem?_eq_getElem (by omega))
    refine ⟨fun e => ?_, fun e => ?_⟩
    · simpa using wf_sl h1 e
    · have := wf_sl h2 e
      have h3 := encTys_length t.l
      rw [this] at h3
      exact List.length_eq_zero_iff.1 h3.symm
theorem plain_p (t : Ty) (h1 : t.names.length ≤ 64) (h2 : t.l.length ≤ 64) : E.Pure Tryd.prog 10 [encTy t] (.one (.t (encTy (plainT false t)))) := by
  refine E.Pure.wf1 (fun F v h => wf_ty h) fun hw => ?_
  have hlen := encTys_length t.l
  have hlen2 : (t.names.map tStr).length = t.names.length := by simp
  have hc1 := clone_p (t.names.map tStr) t.nn (by omega) (leaves_str _) (fun e => by rw [hw.nn e]; rfl)
  have hc2 := cloneT_p (encTys t.l) t.nl (by omega) (leaves_all _) (fun e => by rw [hw.nl e]; rfl)
  refine Pure.ofC rfl Tryd.func10 rfl rfl (Nat.le_of_ble_eq_true rfl) rfl ?_
  rw [encTy_eta t]
  repeat' (first | refine Tri.seq ?_ | refine Tri.reg ?_ | refine TriL.nil ?_ | (apply U.moveT; rfl; trivial; rfl) | (apply U.assignT; rfl; trivial; rfl) | (apply U.load; rfl; rfl; trivial; rfl; rfl; rfl) | (apply U.fld; rfl; trivial; rfl; infer_instance; decide; rfl) | (apply U.bin; rfl; trivial; rfl; trivial; rfl; rfl) | (apply U.len; rfl; trivial; rfl) | (apply U.loadS; rfl; rfl; trivial; rfl; rfl; rfl; rfl; rfl) | (apply U.boxA; rfl; rfl) | (apply U.alloc; rfl; rfl; rfl; rfl) | (apply U.storeS; rfl; rfl; rfl; rfl; rfl; rfl; rfl; rfl) | refine Tri.skip ?_ | refine Tri.block ?_ | refine Tri.ret ?_ | (apply U.build; rfl; rfl; rfl; rfl; rfl) | (refine Tri.cond rfl (fun h => ?_) (fun h => ?_) <;> (try simp at h) <;> (try contradiction)) | fail)
  · -- a tuple
    refine Tri.loopL (fun i => match i with
        | 0 => ⟨[(14, .t (tInt ((0 : Nat) : Int))), (13, .t (tInt t.l.length)), (12, .t (.sl t.nl (encTys t.l))), (3, .ptr 2 0), (2, .ptr 1 0)], Tryd.f10.ntmps, [(2, .obj [.t (tInt 13), .t (.sl true []), .t (.sl true []), .t (tInt 0)]), (1, .obj [.t (tInt 0), .t (.sl true []), .t (.sl true []), .t (tInt 0)])], 0, 3⟩
        | k + 1 => ⟨[(14, .t (tInt ((k + 1 : Nat) : Int))), (13, .t (tInt t.l.length)), (12, .t (.sl t.nl (encTys t.l))), (3, .ptr 2 0), (2, .ptr 1 0)], Tryd.f10.ntmps, [(2, .obj [.t (tInt 13), .ref 3 1 0 (k + 1) (k + 1), .ref 4 4 0 (k + 1) (k + 1), .t (tInt 0)]), (1, .obj [.t (tInt 0), .t (.sl true []), .t (.sl true []), .t (tInt 0)]), (3, .row 1 ((digs (k + 1)).map tStr) false), (4, .row 4 (encTys (t.l.take (k + 1))) false)], 0, 5⟩)
      (fun i => i ≤ t.l.length) (fun i => t.l.length - i) 0 (Nat.zero_le _) ?_ ?_
    · refine Sub.less (Sub.of rfl rfl ⟨rfl, ?_, rfl, rfl, rfl, trivial⟩ ⟨rfl, rfl, trivial⟩)
      rw [← hlen]; rfl
    rintro (_ | k) hi
    · repeat' (first | refine Tri.seq ?_ | refine Tri.reg ?_ | refine TriL.nil ?_ | (apply U.moveT; rfl; trivial; rfl) | (apply U.bin; rfl; trivial; rfl; trivial; rfl; rfl) | (apply U.loadS; rfl; rfl; trivial; rfl; rfl; rfl; rfl; rfl) | (apply U.storeS; rfl; rfl; rfl; rfl; rfl; rfl; rfl; rfl) | refine Tri.skip ?_ | refine Tri.block ?_ | refine Tri.exit ?_ | refine Tri.ret ?_ | (refine Tri.cond rfl (fun h => ?_) (fun h => ?_) <;> (try simp at h) <;> (try contradiction)) | fail)
      · have hlt : 0 < t.l.length := by omega
        have hget := get_ty hlt
        have hit := itoa_p 0 (by omega)
        repeat' (first | refine TriL.nil ?_ | (apply U.assignT; rfl; trivial; rfl) | (apply U.loadES; rfl; rfl; trivial; rfl; rfl; rfl) | (apply U.idx; rfl; trivial; rfl; trivial; exact fun _ => (by omega); exact fun _ => (by assumption); exact fun _ => rfl; rfl) | (apply U.alloc; rfl; rfl; rfl; rfl) | (apply U.storeS; rfl; rfl; rfl; rfl; rfl; rfl; rfl; rfl) | fail)
        refine Tri.regDB [(2, .obj [.t (tInt 13), .t (.sl true []), .t (.sl true []), .t (tInt 0)]), (3, .obj ((agTy t.l[0]).leaves.map .t))] [5, 10, 12, 14] mixed (by kernel_rfl) (.of ⟨rfl, rfl, trivial⟩) ?_
        repeat' (first | refine TriL.nil ?_ | exact ⟨rfl, rfl, rfl⟩ | (apply D.v; rfl; rfl; rfl) | (apply U.moveT; rfl; trivial; rfl) | (apply U.load; rfl; rfl; trivial; rfl; rfl; rfl) | (apply U.fld; rfl; trivial; rfl; infer_instance; decide; rfl) | refine U.call1 rfl rfl (by assumption) rfl ?_ | fail)
        · (apply U.litT; rfl; rfl; rfl; rfl; rfl; rfl; rfl; rfl)
          repeat' (first | refine TriL.nil ?_ | exact ⟨rfl, rfl, rfl⟩ | fail)
        (apply D.e; rfl; rfl; rfl; rotate_left)
        · refine U.appNil rfl (SrcE.t rfl rfl) Nat.zero_lt_one (Nat.le_of_ble_eq_true rfl) (Nat.le_of_ble_eq_true rfl) rfl ?_
          repeat' (first | refine TriL.nil ?_ | exact ⟨rfl, rfl, rfl⟩ | fail)
        (apply D.f; rfl; rfl; rfl; intro hp_ n_)
        · repeat' (first | refine TriL.nil ?_ | exact ⟨rfl, rfl, rfl⟩ | (apply U.fld; rfl; trivial; rfl; infer_instance; decide; rfl) | fail)
        (apply D.fb; rfl; rfl; rfl; intro hp_ n_ hk_)
        · refine U.load rfl rfl trivial (hk_ 2 _ rfl) rfl rfl ?_
          repeat' (first | refine TriL.nil ?_ | exact ⟨rfl, rfl, rfl⟩ | fail)
        (apply D.fb; rfl; rfl; rfl; intro hp_ n_ hk_)
        · refine U.loadS rfl rfl trivial (hk_ 3 _ rfl) rfl rfl rfl rfl ?_
          repeat' (first | refine TriL.nil ?_ | exact ⟨rfl, rfl, rfl⟩ | fail)
        (apply D.f; rfl; rfl; rfl; intro hp_ n_)
        · (apply U.litT; rfl; rfl; rfl; rfl; rfl; rfl; rfl; rfl)
          repeat' (first | refine TriL.nil ?_ | exact ⟨rfl, rfl, rfl⟩ | fail)
        (apply D.e; rfl; rfl; rfl; rotate_left)
        · refine U.appNil rfl (SrcE.t rfl rfl) Nat.zero_lt_one (Nat.le_of_ble_eq_true rfl) (Nat.le_of_ble_eq_true rfl) rfl ?_
          repeat' (first | refine TriL.nil ?_ | exact ⟨rfl, rfl, rfl⟩ | fail)
        (apply D.f; rfl; rfl; rfl; intro hp_ n_)
        · repeat' (first | refine TriL.nil ?_ | exact ⟨rfl, rfl, rfl⟩ | (apply U.fld; rfl; trivial; rfl; infer_instance; decide; rfl) | fail)
        skip
        (apply D.s; rfl; rfl; rfl; rotate_left)
        repeat' (first | refine TriL.nil ?_ | exact ⟨rfl, rfl, rfl⟩ | (apply D.v; rfl; rfl; rfl) | (apply U.fld; rfl; trivial; rfl; infer_instance; decide; rfl) | (apply U.store; rfl; rfl; rfl; rfl; rfl; rfl; rfl) | exact ⟨rfl, rfl⟩ | fail)
        (apply D.s; rfl; rfl; rfl; rotate_left)
        repeat' (first | refine Tri.reg ?_ | refine TriL.nil ?_ | refine D.nil ?_ | (apply U.moveT; rfl; trivial; rfl) | (apply U.add; rfl; trivial; rfl; trivial; exact fun _ => wrap_i64 (by omega) (by omega); rfl) | (apply U.store; rfl; rfl; rfl; rfl; rfl; rfl; rfl) | exact ⟨rfl, rfl⟩ | fail)
        · refine ⟨0 + 1, hlt, by omega, ?_⟩
          refine Less.ren (fun b => if b = 3 then 4 else if b = 4 then 5 else b) rfl rfl ⟨rfl, rfl, rfl, rfl, rfl, trivial⟩ ⟨rfl, rfl, ?_, ?_, trivial⟩ rfl rfl rfl
          · rfl
          · rw [show t.l.take (0 + 1) = [t.l[0]] from (by rw [List.take_succ_eq_append_getElem hlt]; rfl), encTys, encTys, encTy_eta]; rfl
        all_goals first | (exact fun _ => .of ⟨rfl, rfl, trivial⟩) | (intro h_; cases h_)
      · -- the end
        have hz : t.l.length = 0 := by first | omega | exact List.length_eq_zero_iff.2 (by assumption)
        refine ComesC.tree rfl rfl rfl rfl ?_
        rw [plainT, if_pos (by assumption)]
        have : t.l = [] := List.length_eq_zero_iff.1 hz
        rw [this]; rfl
    · repeat' (first | refine Tri.seq ?_ | refine Tri.reg ?_ | refine TriL.nil ?_ | (apply U.moveT; rfl; trivial; rfl) | (apply U.bin; rfl; trivial; rfl; trivial; rfl; rfl) | (apply U.loadS; rfl; rfl; trivial; rfl; rfl; rfl; rfl; rfl) | (apply U.storeS; rfl; rfl; rfl; rfl; rfl; rfl; rfl; rfl) | refine Tri.skip ?_ | refine Tri.block ?_ | refine Tri.exit ?_ | refine Tri.ret ?_ | (refine Tri.cond rfl (fun h => ?_) (fun h => ?_) <;> (try simp at h) <;> (try contradiction)) | fail)
      · have hlt : k + 1 < t.l.length := by omega
        have hget := get_ty hlt
        have hit := itoa_p (k + 1) (by omega)
        repeat' (first | refine TriL.nil ?_ | (apply U.assignT; rfl; trivial; rfl) | (apply U.loadES; rfl; rfl; trivial; rfl; rfl; rfl) | (apply U.idx; rfl; trivial; rfl; trivial; exact fun _ => (by omega); exact fun _ => (by assumption); exact fun _ => rfl; rfl) | (apply U.alloc; rfl; rfl; rfl; rfl) | (apply U.storeS; rfl; rfl; rfl; rfl; rfl; rfl; rfl; rfl) | fail)
        refine Tri.regDB [(2, .obj [.t (tInt 13), .ref 3 1 0 (k + 1) (k + 1), .ref 4 4 0 (k + 1) (k + 1), .t (tInt 0)]), (5, .obj ((agTy t.l[k + 1]).leaves.map .t))] [5, 10, 12, 14] mixed (by kernel_rfl) (.of ⟨rfl, rfl, trivial⟩) ?_
        repeat' (first | refine TriL.nil ?_ | exact ⟨rfl, rfl, rfl⟩ | (apply D.v; rfl; rfl; rfl) | (apply U.moveT; rfl; trivial; rfl) | (apply U.load; rfl; rfl; trivial; rfl; rfl; rfl) | (apply U.fld; rfl; trivial; rfl; infer_instance; decide; rfl) | refine U.call1 rfl rfl (by assumption) rfl ?_ | fail)
        · (apply U.litT; rfl; rfl; rfl; rfl; rfl; rfl; rfl; rfl)
          repeat' (first | refine TriL.nil ?_ | exact ⟨rfl, rfl, rfl⟩ | fail)
        (apply D.e; rfl; rfl; rfl; rotate_left)
        · refine U.appOwn rfl rfl (by simp [digs]) (by simp [digs]) (SrcE.t rfl rfl) (by simp; omega) (by simp; omega) rfl ?_
          repeat' (first | refine TriL.nil ?_ | exact ⟨rfl, rfl, rfl⟩ | fail)
        (apply D.f; rfl; rfl; rfl; intro hp_ n_)
        · repeat' (first | refine TriL.nil ?_ | exact ⟨rfl, rfl, rfl⟩ | (apply U.fld; rfl; trivial; rfl; infer_instance; decide; rfl) | fail)
        (apply D.fb; rfl; rfl; rfl; intro hp_ n_ hk_)
        · refine U.load rfl rfl trivial (hk_ 2 _ rfl) rfl rfl ?_
          repeat' (first | refine TriL.nil ?_ | exact ⟨rfl, rfl, rfl⟩ | fail)
        (apply D.fb; rfl; rfl; rfl; intro hp_ n_ hk_)
        · refine U.loadS rfl rfl trivial (hk_ 5 _ rfl) rfl rfl rfl rfl ?_
          repeat' (first | refine TriL.nil ?_ | exact ⟨rfl, rfl, rfl⟩ | fail)
        (apply D.f; rfl; rfl; rfl; intro hp_ n_)
        · (apply U.litT; rfl; rfl; rfl; rfl; rfl; rfl; rfl; rfl)
          repeat' (first | refine TriL.nil ?_ | exact ⟨rfl, rfl, rfl⟩ | fail)
        (apply D.e; rfl; rfl; rfl; rotate_left)
        · refine U.appOwn rfl rfl (by simp [encTys_length]; omega) (by simp [encTys_length]; omega) (SrcE.t rfl rfl) (by simp; omega) (by simp; omega) rfl ?_
          repeat' (first | refine TriL.nil ?_ | exact ⟨rfl, rfl, rfl⟩ | fail)
        (apply D.f; rfl; rfl; rfl; intro hp_ n_)
        · repeat' (first | refine TriL.nil ?_ | exact ⟨rfl, rfl, rfl⟩ | (apply U.fld; rfl; trivial; rfl; infer_instance; decide; rfl) | fail)
        skip
        (apply D.s; rfl; rfl; rfl; rotate_left)
        repeat' (first | refine TriL.nil ?_ | exact ⟨rfl, rfl, rfl⟩ | (apply D.v; rfl; rfl; rfl) | (apply U.fld; rfl; trivial; rfl; infer_instance; decide; rfl) | (apply U.store; rfl; rfl; rfl; rfl; rfl; rfl; rfl) | exact ⟨rfl, rfl⟩ | fail)
        (apply D.s; rfl; rfl; rfl; rotate_left)
        repeat' (first | refine Tri.reg ?_ | refine TriL.nil ?_ | refine D.nil ?_ | (apply U.moveT; rfl; trivial; rfl) | (apply U.add; rfl; trivial; rfl; trivial; exact fun _ => wrap_i64 (by omega) (by omega); rfl) | (apply U.store; rfl; rfl; rfl; rfl; rfl; rfl; rfl) | exact ⟨rfl, rfl⟩ | fail)
        · refine ⟨k + 1 + 1, hlt, by omega, ?_⟩
          refine Less.ren (fun b => if b = 3 then 6 else if b = 4 then 7 else b) rfl rfl ⟨rfl, rfl, rfl, rfl, rfl, trivial⟩ ⟨rfl, rfl, ?_, ?_, trivial⟩ rfl rfl rfl
          · rw [show (digs (k + 1 + 1)).map tStr = (digs (k + 1)).map tStr ++ [tStr (digT (k + 1))] from (by simp [digs, List.range_succ])]; rfl
          · rw [List.take_succ_eq_append_getElem hlt, encTys_app, encTys, encTys, encTy_eta]; rfl
        all_goals first | (exact fun _ => .of ⟨rfl, rfl, trivial⟩) | (intro h_; cases h_)
      · -- the end
        have hz : t.l.length = k + 1 := by omega
        refine ComesC.of rfl rfl (ls' := [_, _, _, _]) rfl rfl (.tree rfl (.froz rfl ?_ (.froz rfl ?_ (.tree rfl .nil)))) ⟨[_, _, _, _], rfl, ?_⟩
        · simp [digs]
        · simp [encTys_length]; omega
        · rw [plainT, if_pos (by assumption)]
          have : t.l.isEmpty = false := by cases hl : t.l <;> simp_all
          rw [this, encTy, hz]
          simp [digs, List.take_of_length_le, hz]
          exact ⟨rfl, List.take_of_length_le (by rw [encTys_length]; omega), rfl⟩
  · -- an enum
    refine Tri.regD [8] mixed (by kernel_rfl) ?_
    repeat' (first | refine TriL.nil ?_ | exact ⟨rfl, rfl, rfl⟩ | (apply D.v; rfl; rfl; rfl) | (apply U.load; rfl; rfl; trivial; rfl; rfl; rfl) | (apply U.fld; rfl; trivial; rfl; infer_instance; decide; rfl) | (apply U.len; rfl; trivial; rfl) | refine U.call1 rfl rfl (by assumption) rfl ?_ | fail)
    · (apply U.makeT; rfl; trivial; rfl; trivial; rfl; rfl; rfl; (first | omega | (simp; omega)); (first | omega | (simp; omega)); (first | omega | (simp; omega)); rfl)
      repeat' (first | refine TriL.nil ?_ | exact ⟨rfl, rfl, rfl⟩ | fail)
    repeat' (first | refine TriL.nil ?_ | exact ⟨rfl, rfl, rfl⟩ | (apply U.build; rfl; rfl; rfl; rfl; rfl) | fail)
    (apply D.s; rfl; rfl; rfl; rotate_left)
    repeat' (first | refine TriL.nil ?_ | refine D.nil ?_ | (apply U.storeS; rfl; rfl; rfl; rfl; rfl; rfl; rfl; rfl) | refine Tri.ret ?_ | exact ⟨rfl, rfl⟩ | fail)
    · refine ComesC.tree rfl rfl rfl rfl ?_
      rw [plainT, if_neg (by omega), if_pos h]
      show _ = T.agg [_, _, T.sl (false && _) (encTys (List.replicate t.names.length ty0)), _]
      rw [encTys_rep, Int.toNat_natCast, List.length_map]; rfl
    · exact fun _ => .nil
  · -- an option
    refine Tri.regDB [(0, .obj [.t (.v (.int .i64 t.kind)), .t (.sl t.nn (t.names.map tStr)), .t (.sl t.nl (encTys t.l)), .t (.v (.int .i64 t.r))])] [1, 4, 6] mixed (by kernel_rfl) (.of ⟨rfl, trivial⟩) ?_
    (apply D.f; rfl; rfl; rfl; intro hp_ n_)
    · (apply U.litT; rfl; rfl; rfl; rfl; rfl; rfl; rfl; rfl)
      repeat' (first | refine TriL.nil ?_ | exact ⟨rfl, rfl, rfl⟩ | fail)
    (apply D.e; rfl; rfl; rfl; rotate_left)
    · (apply U.make; rfl; trivial; rfl; trivial; rfl; rfl; rfl; omega; omega; decide; decide; rfl)
      repeat' (first | refine TriL.nil ?_ | exact ⟨rfl, rfl, rfl⟩ | fail)
    (apply D.f; rfl; rfl; rfl; intro hp_ n_)
    · repeat' (first | refine TriL.nil ?_ | exact ⟨rfl, rfl, rfl⟩ | (apply U.fld; rfl; trivial; rfl; infer_instance; decide; rfl) | fail)
    (apply D.fb; rfl; rfl; rfl; intro hp_ n_ hk_)
    · refine U.load rfl rfl trivial (hk_ 0 _ rfl) rfl rfl ?_
      repeat' (first | refine TriL.nil ?_ | exact ⟨rfl, rfl, rfl⟩ | fail)
    (apply D.e; rfl; rfl; rfl; rotate_left)
    · refine U.appOwn rfl rfl rfl rfl (SrcE.t rfl (leaves_all _)) ?_ ?_ rfl ?_
      · simp; omega
      · simp; omega
      repeat' (first | refine TriL.nil ?_ | exact ⟨rfl, rfl, rfl⟩ | fail)
    repeat' (first | refine TriL.nil ?_ | exact ⟨rfl, rfl, rfl⟩ | (apply D.v; rfl; rfl; rfl) | (apply U.build; rfl; rfl; rfl; rfl; rfl) | fail)
    (apply D.s; rfl; rfl; rfl; rotate_left)
    repeat' (first | refine TriL.nil ?_ | refine D.nil ?_ | (apply U.storeS; rfl; rfl; rfl; rfl; rfl; rfl; rfl; rfl) | refine Tri.ret ?_ | exact ⟨rfl, rfl⟩ | fail)
    · refine ComesC.of rfl rfl (ls' := [_, _, _, _]) rfl rfl (.tree rfl (.tree rfl (.froz rfl ?_ (.tree rfl .nil)))) ⟨[_, _, _, _], rfl, ?_⟩
      · simp; omega
      · rw [plainT, if_neg (by omega), if_neg (by omega), if_pos h]
        simp [encTy, encTys, tStr, nmNone, nmSome, ty0]
        exact List.take_of_length_le (by simp; omega)
    all_goals exact fun _ => .of ⟨rfl, trivial⟩
  · (apply U.litT; rfl; rfl; rfl; rfl; rfl; rfl; rfl; rfl)
    repeat' (first | refine TriL.nil ?_ | (apply U.load; rfl; rfl; trivial; rfl; rfl; rfl) | (apply U.fld; rfl; trivial; rfl; infer_instance; decide; rfl) | (apply U.storeS; rfl; rfl; rfl; rfl; rfl; rfl; rfl; rfl) | refine U.call1 rfl rfl (by assumption) rfl ?_ | refine Tri.ret ?_ | (apply U.build; rfl; rfl; rfl; rfl; rfl) | fail)
    refine ComesC.tree rfl rfl rfl rfl ?_
    rw [plainT, if_neg (by omega), if_neg (by omega), if_neg (by omega), if_pos h]; rfl
  · refine ComesC.tree rfl rfl rfl rfl ?_
    rw [plainT, if_neg (by omega), if_neg (by omega), if_neg (by omega), if_neg h, encTy_eta t]
end Go.Proofs.YtaplmmhkpljmkaaDoor
