/- StoreNone, its run's first piece: nil heaps, a store to which a module is not added. -/
import Derived.Test.YtdiimgkopknbcaaGreatDoorK10
import Derived.Test.YtdiimgkopknbcaaGreatDoorK18
import Derived.Test.YtdiimgkopknbcaaGreatDoorK20
namespace Go.Proofs.YtdiimgkopknbcaaGreatDoor
open Go E
set_option maxRecDepth 100000
set_option linter.unusedVariables false
set_option linter.unusedSimpArgs false
abbrev cT (t : Ty) : List PV := [.t (.v (.int .i64 t.kind)), .t (.sl t.nn (t.names.map tStr)), .t (.sl t.nl (encTys t.l)), .t (.v (.int .i64 t.r))]
abbrev cV (v : Val) : List PV := [.t (.v (.int .i64 v.n)), .t (.sl v.ns (v.s.map tInt)), .t (.sl v.nl (encVals v.l))]
abbrev cZ : List PV := [.t (.v (.int .i64 0)), .t (.sl true []), .t (.sl true [])]
abbrev cN : List PV := [.t (.sl true []), .t (.sl true []), .t (.sl true []), .t (.sl true []), .t (.sl true [])]
abbrev tm0 (at_ en : Int) : List (Nat × PV) := [(5, .ptr 1 0), (4, .ptr 0 0), (3, .t (tInt en)), (2, .t (tInt at_))]
abbrev hp0 (t : Ty) (v : Val) : HpT := [(1, cV v, none), (0, cT t, none)]
noncomputable abbrev rs0 (t : Ty) (v : Val) (at_ en : Int) : RS := ⟨trOf (tm0 at_ en), trOf (rbsT (hp0 t v)), 2, []⟩
abbrev tm1 (at_ en : Int) : List (Nat × PV) := [(19, .ptr 6 0), (18, .t (tInt 10)), (17, .t (tInt 0)), (16, .t (tInt 10)), (15, .t (tInt 0)), (14, .t (tInt 10)), (13, .t (tInt 0)), (12, .t (tInt 0)), (11, .t (tInt 10)), (10, .ptr 4 0), (9, .t (.v (.pointer none))), (5, .ptr 1 0), (4, .ptr 0 0), (3, .t (tInt en)), (2, .t (tInt at_))]
abbrev hp1 (t : Ty) (v : Val) : HpT := [(6, cN, some 97), (4, cZ, some 29), (1, cV v, none), (0, cT t, none)]
theorem partA (t : Ty) (v : Val) (at_ en : Int) : (runK env 1000000 Tryz.f3.ntmps 7 (dropC 2 (bodyOf Tryz.f3)) (rs0 t v at_ en)).map (keptR (tm1 at_ en) (hp1 t v) 7) = some ((tm1 at_ en).map fun x => some x.2, (hp1 t v).map fun x => some (.obj x.2.1 x.2.2), true) := by kernel_rfl
end Go.Proofs.YtdiimgkopknbcaaGreatDoor
