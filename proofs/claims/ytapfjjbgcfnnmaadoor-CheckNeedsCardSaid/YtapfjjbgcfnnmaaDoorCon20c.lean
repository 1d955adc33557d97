/- What the program's functions come to: printed by a program, checked by Lean. No condition. -/
import Derived.Test.YtapfjjbgcfnnmaaDoorCon20b
set_option maxRecDepth 4000
set_option synthInstance.maxHeartbeats 2000000
set_option synthInstance.maxSize 100000
set_option linter.unusedVariables false
namespace Go.Cellar
open Go

theorem check_Conflicts_con {st_1207 : List (List UInt8 × List UInt8 × Int × List (List (List UInt8 × List UInt8 × List UInt8)) × List (List UInt8 × List UInt8 × List UInt8) × List (List UInt8) × List (List UInt8 × List UInt8) × List (List UInt8) × List (List UInt8))} {st_1208 : List (List UInt8 × List UInt8 × List UInt8)} {st_1209 : List (List UInt8 × Int × Int × Int)} {st_1210 : List (List UInt8 × List UInt8 × Bool × List UInt8 × List (List UInt8 × List UInt8) × List (List UInt8 × Int × List (List UInt8)))} {st_1211 : List (List UInt8 × List UInt8 × Bool)} {st_1212 : List (List UInt8 × List (List UInt8))} {st_1213 : List (List UInt8 × List (List UInt8))} {x_1214 : List UInt8} {x_1215 : List UInt8} {x_1216 : List (List (List UInt8 × List UInt8 × List UInt8))} {x_1217 : List (List UInt8 × List UInt8 × List UInt8)} {x_1218 : List (List UInt8)} {x_1219 : List (List UInt8 × Int × (Int × Int × Int) × List UInt8 × Bool)} {x_1220 : List (List UInt8 × List UInt8 × Bool)} {x_1221 : List (Int × List UInt8 × List UInt8 × List UInt8 × (Int × Int × Int) × Int × Bool × Bool × List (List UInt8 × List UInt8) × List (List UInt8))} {x_1222 : List (Int × List UInt8 × List UInt8 × List UInt8 × (Int × Int × Int) × Int × Bool × Bool × List (List UInt8 × List UInt8) × List (List UInt8))} {x_1223 : List (Int × List UInt8 × List UInt8 × List UInt8 × (Int × Int × Int) × Int × Bool × Bool × List (List UInt8 × List UInt8) × List (List UInt8))} {x_1224 : List (Int × List UInt8 × List UInt8 × List UInt8 × (Int × Int × Int) × Int × Bool × Bool × List (List UInt8 × List UInt8) × List (List UInt8))} {r : List (List UInt8)} (h : check_Conflicts st_1207 st_1208 st_1209 st_1210 st_1211 st_1212 st_1213 x_1214 x_1215 x_1216 x_1217 x_1218 x_1219 x_1220 x_1221 x_1222 x_1223 x_1224 = some r) : Con Go.Proofs.Tryd.prog 17 [AV.agg [AV.list (Ty.prod Ty.str (Ty.prod Ty.str (Ty.prod (Ty.int IntKind.i64) (Ty.prod (Ty.list (Ty.list (Ty.prod Ty.str (Ty.prod Ty.str Ty.str)))) (Ty.prod (Ty.list (Ty.prod Ty.str (Ty.prod Ty.str Ty.str))) (Ty.prod (Ty.list Ty.str) (Ty.prod (Ty.list (Ty.prod Ty.str Ty.str)) (Ty.prod (Ty.list Ty.str) (Ty.list Ty.str))))))))) st_1207 Bool.false, AV.list (Ty.prod Ty.str (Ty.prod Ty.str Ty.str)) st_1208 Bool.false, AV.list (Ty.prod Ty.str (Ty.prod (Ty.int IntKind.i64) (Ty.prod (Ty.int IntKind.i64) (Ty.int IntKind.i64)))) st_1209 Bool.false, AV.list (Ty.prod Ty.str (Ty.prod Ty.str (Ty.prod Ty.bool (Ty.prod Ty.str (Ty.prod (Ty.list (Ty.prod Ty.str Ty.str)) (Ty.list (Ty.prod Ty.str (Ty.prod (Ty.int IntKind.i64) (Ty.list Ty.str))))))))) st_1210 Bool.false, AV.list (Ty.prod Ty.str (Ty.prod Ty.str Ty.bool)) st_1211 Bool.false, AV.list (Ty.prod Ty.str (Ty.list Ty.str)) st_1212 Bool.false, AV.list (Ty.prod Ty.str (Ty.list Ty.str)) st_1213 Bool.false], AV.agg [AV.str x_1214, AV.str x_1215, AV.list (Ty.list (Ty.prod Ty.str (Ty.prod Ty.str Ty.str))) x_1216 Bool.false, AV.list (Ty.prod Ty.str (Ty.prod Ty.str Ty.str)) x_1217 Bool.false, AV.list Ty.str x_1218 Bool.false, AV.list (Ty.prod Ty.str (Ty.prod (Ty.int IntKind.i64) (Ty.prod (Ty.prod (Ty.int IntKind.i64) (Ty.prod (Ty.int IntKind.i64) (Ty.int IntKind.i64))) (Ty.prod Ty.str Ty.bool)))) x_1219 Bool.false, AV.list (Ty.prod Ty.str (Ty.prod Ty.str Ty.bool)) x_1220 Bool.false, AV.list (Ty.prod (Ty.int IntKind.i64) (Ty.prod Ty.str (Ty.prod Ty.str (Ty.prod Ty.str (Ty.prod (Ty.prod (Ty.int IntKind.i64) (Ty.prod (Ty.int IntKind.i64) (Ty.int IntKind.i64))) (Ty.prod (Ty.int IntKind.i64) (Ty.prod Ty.bool (Ty.prod Ty.bool (Ty.prod (Ty.list (Ty.prod Ty.str Ty.str)) (Ty.list Ty.str)))))))))) x_1221 Bool.false, AV.list (Ty.prod (Ty.int IntKind.i64) (Ty.prod Ty.str (Ty.prod Ty.str (Ty.prod Ty.str (Ty.prod (Ty.prod (Ty.int IntKind.i64) (Ty.prod (Ty.int IntKind.i64) (Ty.int IntKind.i64))) (Ty.prod (Ty.int IntKind.i64) (Ty.prod Ty.bool (Ty.prod Ty.bool (Ty.prod (Ty.list (Ty.prod Ty.str Ty.str)) (Ty.list Ty.str)))))))))) x_1222 Bool.false, AV.list (Ty.prod (Ty.int IntKind.i64) (Ty.prod Ty.str (Ty.prod Ty.str (Ty.prod Ty.str (Ty.prod (Ty.prod (Ty.int IntKind.i64) (Ty.prod (Ty.int IntKind.i64) (Ty.int IntKind.i64))) (Ty.prod (Ty.int IntKind.i64) (Ty.prod Ty.bool (Ty.prod Ty.bool (Ty.prod (Ty.list (Ty.prod Ty.str Ty.str)) (Ty.list Ty.str)))))))))) x_1223 Bool.false, AV.list (Ty.prod (Ty.int IntKind.i64) (Ty.prod Ty.str (Ty.prod Ty.str (Ty.prod Ty.str (Ty.prod (Ty.prod (Ty.int IntKind.i64) (Ty.prod (Ty.int IntKind.i64) (Ty.int IntKind.i64))) (Ty.prod (Ty.int IntKind.i64) (Ty.prod Ty.bool (Ty.prod Ty.bool (Ty.prod (Ty.list (Ty.prod Ty.str Ty.str)) (Ty.list Ty.str)))))))))) x_1224 Bool.false]] [] (check_Conflicts_res r) (check_Conflicts_out r) := by
  refine W.con (by kernel_rfl) ?_
  unfold check_Conflicts at h
  refine W.at 0 100000 [Co.own 5 (Ty.str)] [3, 5, 9, 10, 11] (c' := (fun (s_1270 : Int × List (List UInt8)) => (Cfg.mk Mode.run (headTodo Go.Proofs.Tryd.prog 17 0) (St.mk [jj, jj, jj, AV.ptr (0 : Nat) (0 : Nat), jj, AV.view (1 : Nat) (0 : Nat) Option.none, jj, jj, jj, AV.list (Ty.prod Ty.str (Ty.prod Ty.str (Ty.prod (Ty.int IntKind.i64) (Ty.prod (Ty.list (Ty.list (Ty.prod Ty.str (Ty.prod Ty.str Ty.str)))) (Ty.prod (Ty.list (Ty.prod Ty.str (Ty.prod Ty.str Ty.str))) (Ty.prod (Ty.list Ty.str) (Ty.prod (Ty.list (Ty.prod Ty.str Ty.str)) (Ty.prod (Ty.list Ty.str) (Ty.list Ty.str))))))))) st_1207 Bool.false, AV.int IntKind.i64 (↑(List.length st_1207) : Int), AV.int IntKind.i64 (Prod.fst s_1270), jj, jj, jj, jj, jj, jj, jj, jj, jj, jj, jj, jj, jj, jj, jj, jj, jj, jj, jj, jj, jj, jj, jj, jj, jj, jj, jj, jj, jj, jj, jj, jj, jj, jj, jj, jj] [AO.box [AV.str x_1214, AV.str x_1215, AV.list (Ty.list (Ty.prod Ty.str (Ty.prod Ty.str Ty.str))) x_1216 Bool.false, AV.list (Ty.prod Ty.str (Ty.prod Ty.str Ty.str)) x_1217 Bool.false, AV.list Ty.str x_1218 Bool.false, AV.list (Ty.prod Ty.str (Ty.prod (Ty.int IntKind.i64) (Ty.prod (Ty.prod (Ty.int IntKind.i64) (Ty.prod (Ty.int IntKind.i64) (Ty.int IntKind.i64))) (Ty.prod Ty.str Ty.bool)))) x_1219 Bool.false, AV.list (Ty.prod Ty.str (Ty.prod Ty.str Ty.bool)) x_1220 Bool.false, AV.list (Ty.prod (Ty.int IntKind.i64) (Ty.prod Ty.str (Ty.prod Ty.str (Ty.prod Ty.str (Ty.prod (Ty.prod (Ty.int IntKind.i64) (Ty.prod (Ty.int IntKind.i64) (Ty.int IntKind.i64))) (Ty.prod (Ty.int IntKind.i64) (Ty.prod Ty.bool (Ty.prod Ty.bool (Ty.prod (Ty.list (Ty.prod Ty.str Ty.str)) (Ty.list Ty.str)))))))))) x_1221 Bool.false, AV.list (Ty.prod (Ty.int IntKind.i64) (Ty.prod Ty.str (Ty.prod Ty.str (Ty.prod Ty.str (Ty.prod (Ty.prod (Ty.int IntKind.i64) (Ty.prod (Ty.int IntKind.i64) (Ty.int IntKind.i64))) (Ty.prod (Ty.int IntKind.i64) (Ty.prod Ty.bool (Ty.prod Ty.bool (Ty.prod (Ty.list (Ty.prod Ty.str Ty.str)) (Ty.list Ty.str)))))))))) x_1222 Bool.false, AV.list (Ty.prod (Ty.int IntKind.i64) (Ty.prod Ty.str (Ty.prod Ty.str (Ty.prod Ty.str (Ty.prod (Ty.prod (Ty.int IntKind.i64) (Ty.prod (Ty.int IntKind.i64) (Ty.int IntKind.i64))) (Ty.prod (Ty.int IntKind.i64) (Ty.prod Ty.bool (Ty.prod Ty.bool (Ty.prod (Ty.list (Ty.prod Ty.str Ty.str)) (Ty.list Ty.str)))))))))) x_1223 Bool.false, AV.list (Ty.prod (Ty.int IntKind.i64) (Ty.prod Ty.str (Ty.prod Ty.str (Ty.prod Ty.str (Ty.prod (Ty.prod (Ty.int IntKind.i64) (Ty.prod (Ty.int IntKind.i64) (Ty.int IntKind.i64))) (Ty.prod (Ty.int IntKind.i64) (Ty.prod Ty.bool (Ty.prod Ty.bool (Ty.prod (Ty.list (Ty.prod Ty.str Ty.str)) (Ty.list Ty.str)))))))))) x_1224 Bool.false], AO.row Ty.str (Prod.snd s_1270)] (0 : Nat)))) ((0 : Int), [])) (by kernel_rfl) ?_
  refine W.loop (fun (s_1270 : Int × List (List UInt8)) => (Cfg.mk Mode.run (headTodo Go.Proofs.Tryd.prog 17 0) (St.mk [jj, jj, jj, AV.ptr (0 : Nat) (0 : Nat), jj, AV.view (1 : Nat) (0 : Nat) Option.none, jj, jj, jj, AV.list (Ty.prod Ty.str (Ty.prod Ty.str (Ty.prod (Ty.int IntKind.i64) (Ty.prod (Ty.list (Ty.list (Ty.prod Ty.str (Ty.prod Ty.str Ty.str)))) (Ty.prod (Ty.list (Ty.prod Ty.str (Ty.prod Ty.str Ty.str))) (Ty.prod (Ty.list Ty.str) (Ty.prod (Ty.list (Ty.prod Ty.str Ty.str)) (Ty.prod (Ty.list Ty.str) (Ty.list Ty.str))))))))) st_1207 Bool.false, AV.int IntKind.i64 (↑(List.length st_1207) : Int), AV.int IntKind.i64 (Prod.fst s_1270), jj, jj, jj, jj, jj, jj, jj, jj, jj, jj, jj, jj, jj, jj, jj, jj, jj, jj, jj, jj, jj, jj, jj, jj, jj, jj, jj, jj, jj, jj, jj, jj, jj, jj, jj, jj] [AO.box [AV.str x_1214, AV.str x_1215, AV.list (Ty.list (Ty.prod Ty.str (Ty.prod Ty.str Ty.str))) x_1216 Bool.false, AV.list (Ty.prod Ty.str (Ty.prod Ty.str Ty.str)) x_1217 Bool.false, AV.list Ty.str x_1218 Bool.false, AV.list (Ty.prod Ty.str (Ty.prod (Ty.int IntKind.i64) (Ty.prod (Ty.prod (Ty.int IntKind.i64) (Ty.prod (Ty.int IntKind.i64) (Ty.int IntKind.i64))) (Ty.prod Ty.str Ty.bool)))) x_1219 Bool.false, AV.list (Ty.prod Ty.str (Ty.prod Ty.str Ty.bool)) x_1220 Bool.false, AV.list (Ty.prod (Ty.int IntKind.i64) (Ty.prod Ty.str (Ty.prod Ty.str (Ty.prod Ty.str (Ty.prod (Ty.prod (Ty.int IntKind.i64) (Ty.prod (Ty.int IntKind.i64) (Ty.int IntKind.i64))) (Ty.prod (Ty.int IntKind.i64) (Ty.prod Ty.bool (Ty.prod Ty.bool (Ty.prod (Ty.list (Ty.prod Ty.str Ty.str)) (Ty.list Ty.str)))))))))) x_1221 Bool.false, AV.list (Ty.prod (Ty.int IntKind.i64) (Ty.prod Ty.str (Ty.prod Ty.str (Ty.prod Ty.str (Ty.prod (Ty.prod (Ty.int IntKind.i64) (Ty.prod (Ty.int IntKind.i64) (Ty.int IntKind.i64))) (Ty.prod (Ty.int IntKind.i64) (Ty.prod Ty.bool (Ty.prod Ty.bool (Ty.prod (Ty.list (Ty.prod Ty.str Ty.str)) (Ty.list Ty.str)))))))))) x_1222 Bool.false, AV.list (Ty.prod (Ty.int IntKind.i64) (Ty.prod Ty.str (Ty.prod Ty.str (Ty.prod Ty.str (Ty.prod (Ty.prod (Ty.int IntKind.i64) (Ty.prod (Ty.int IntKind.i64) (Ty.int IntKind.i64))) (Ty.prod (Ty.int IntKind.i64) (Ty.prod Ty.bool (Ty.prod Ty.bool (Ty.prod (Ty.list (Ty.prod Ty.str Ty.str)) (Ty.list Ty.str)))))))))) x_1223 Bool.false, AV.list (Ty.prod (Ty.int IntKind.i64) (Ty.prod Ty.str (Ty.prod Ty.str (Ty.prod Ty.str (Ty.prod (Ty.prod (Ty.int IntKind.i64) (Ty.prod (Ty.int IntKind.i64) (Ty.int IntKind.i64))) (Ty.prod (Ty.int IntKind.i64) (Ty.prod Ty.bool (Ty.prod Ty.bool (Ty.prod (Ty.list (Ty.prod Ty.str Ty.str)) (Ty.list Ty.str)))))))))) x_1224 Bool.false], AO.row Ty.str (Prod.snd s_1270)] (0 : Nat)))) (fun t_1265 => Walk Go.Proofs.Tryd.prog 17 (Cfg.mk Mode.run ((headTodo Go.Proofs.Tryd.prog 17 0).drop 3) (St.mk [jj, jj, jj, jj, jj, AV.view (0 : Nat) (0 : Nat) Option.none, jj, jj, jj, jj, jj, jj, jj, jj, jj, jj, jj, jj, jj, jj, jj, jj, jj, jj, jj, jj, jj, jj, jj, jj, jj, jj, jj, jj, jj, jj, jj, jj, jj, jj, jj, jj, jj, jj, jj, jj, jj, jj] [AO.row Ty.str t_1265] (0 : Nat))) (check_Conflicts_res r) (check_Conflicts_out r)) h (fun t_1265 h => ?_) (fun s_1270 x1267 h1267 K1267 => ?_)
  ·
    exact W.retT 0 100000 h (by kernel_rfl)
  · unfold check_Conflicts_b0 at h1267
    refine W.cond 2 100000 h1267 (by kernel_rfl) (fun h1267 => ?_) (fun h1267 => ?_)
    ·
      refine W.needT 2 100000 h1267 (by kernel_rfl) (fun h1267 => ?_)
      refine W.join (fun t => (Sum.elim (fun t_1259 => Walk Go.Proofs.Tryd.prog 17 (Cfg.mk Mode.run ((seqTodo Go.Proofs.Tryd.prog 17 8).drop 2) (St.mk [jj, jj, jj, AV.ptr (0 : Nat) (0 : Nat), jj, AV.view (1 : Nat) (0 : Nat) Option.none, jj, jj, jj, AV.list (Ty.prod Ty.str (Ty.prod Ty.str (Ty.prod (Ty.int IntKind.i64) (Ty.prod (Ty.list (Ty.list (Ty.prod Ty.str (Ty.prod Ty.str Ty.str)))) (Ty.prod (Ty.list (Ty.prod Ty.str (Ty.prod Ty.str Ty.str))) (Ty.prod (Ty.list Ty.str) (Ty.prod (Ty.list (Ty.prod Ty.str Ty.str)) (Ty.prod (Ty.list Ty.str) (Ty.list Ty.str))))))))) st_1207 Bool.false, AV.int IntKind.i64 (↑(List.length st_1207) : Int), AV.int IntKind.i64 (Prod.fst s_1270), jj, jj, jj, jj, jj, jj, jj, jj, jj, jj, jj, jj, jj, jj, jj, jj, jj, jj, jj, jj, jj, jj, jj, jj, jj, jj, jj, jj, jj, jj, jj, jj, jj, jj, jj, jj] [AO.box [AV.str x_1214, AV.str x_1215, AV.list (Ty.list (Ty.prod Ty.str (Ty.prod Ty.str Ty.str))) x_1216 Bool.false, AV.list (Ty.prod Ty.str (Ty.prod Ty.str Ty.str)) x_1217 Bool.false, AV.list Ty.str x_1218 Bool.false, AV.list (Ty.prod Ty.str (Ty.prod (Ty.int IntKind.i64) (Ty.prod (Ty.prod (Ty.int IntKind.i64) (Ty.prod (Ty.int IntKind.i64) (Ty.int IntKind.i64))) (Ty.prod Ty.str Ty.bool)))) x_1219 Bool.false, AV.list (Ty.prod Ty.str (Ty.prod Ty.str Ty.bool)) x_1220 Bool.false, AV.list (Ty.prod (Ty.int IntKind.i64) (Ty.prod Ty.str (Ty.prod Ty.str (Ty.prod Ty.str (Ty.prod (Ty.prod (Ty.int IntKind.i64) (Ty.prod (Ty.int IntKind.i64) (Ty.int IntKind.i64))) (Ty.prod (Ty.int IntKind.i64) (Ty.prod Ty.bool (Ty.prod Ty.bool (Ty.prod (Ty.list (Ty.prod Ty.str Ty.str)) (Ty.list Ty.str)))))))))) x_1221 Bool.false, AV.list (Ty.prod (Ty.int IntKind.i64) (Ty.prod Ty.str (Ty.prod Ty.str (Ty.prod Ty.str (Ty.prod (Ty.prod (Ty.int IntKind.i64) (Ty.prod (Ty.int IntKind.i64) (Ty.int IntKind.i64))) (Ty.prod (Ty.int IntKind.i64) (Ty.prod Ty.bool (Ty.prod Ty.bool (Ty.prod (Ty.list (Ty.prod Ty.str Ty.str)) (Ty.list Ty.str)))))))))) x_1222 Bool.false, AV.list (Ty.prod (Ty.int IntKind.i64) (Ty.prod Ty.str (Ty.prod Ty.str (Ty.prod Ty.str (Ty.prod (Ty.prod (Ty.int IntKind.i64) (Ty.prod (Ty.int IntKind.i64) (Ty.int IntKind.i64))) (Ty.prod (Ty.int IntKind.i64) (Ty.prod Ty.bool (Ty.prod Ty.bool (Ty.prod (Ty.list (Ty.prod Ty.str Ty.str)) (Ty.list Ty.str)))))))))) x_1223 Bool.false, AV.list (Ty.prod (Ty.int IntKind.i64) (Ty.prod Ty.str (Ty.prod Ty.str (Ty.prod Ty.str (Ty.prod (Ty.prod (Ty.int IntKind.i64) (Ty.prod (Ty.int IntKind.i64) (Ty.int IntKind.i64))) (Ty.prod (Ty.int IntKind.i64) (Ty.prod Ty.bool (Ty.prod Ty.bool (Ty.prod (Ty.list (Ty.prod Ty.str Ty.str)) (Ty.list Ty.str)))))))))) x_1224 Bool.false], AO.row Ty.str (Prod.snd s_1270)] (0 : Nat))) (check_Conflicts_res r) (check_Conflicts_out r)) (fun t_1260 => Walk Go.Proofs.Tryd.prog 17 (Cfg.mk Mode.run (seqTodo Go.Proofs.Tryd.prog 17 8) (St.mk [jj, jj, jj, AV.ptr (0 : Nat) (0 : Nat), jj, AV.view (1 : Nat) (0 : Nat) Option.none, jj, AV.ptr (2 : Nat) (0 : Nat), jj, AV.list (Ty.prod Ty.str (Ty.prod Ty.str (Ty.prod (Ty.int IntKind.i64) (Ty.prod (Ty.list (Ty.list (Ty.prod Ty.str (Ty.prod Ty.str Ty.str)))) (Ty.prod (Ty.list (Ty.prod Ty.str (Ty.prod Ty.str Ty.str))) (Ty.prod (Ty.list Ty.str) (Ty.prod (Ty.list (Ty.prod Ty.str Ty.str)) (Ty.prod (Ty.list Ty.str) (Ty.list Ty.str))))))))) st_1207 Bool.false, AV.int IntKind.i64 (↑(List.length st_1207) : Int), AV.int IntKind.i64 (Prod.fst s_1270), jj, jj, jj, jj, jj, jj, jj, jj, jj, jj, jj, jj, jj, jj, jj, jj, jj, jj, jj, jj, jj, jj, jj, jj, jj, jj, jj, jj, jj, jj, jj, jj, jj, jj, jj, jj] [AO.box [AV.str x_1214, AV.str x_1215, AV.list (Ty.list (Ty.prod Ty.str (Ty.prod Ty.str Ty.str))) x_1216 Bool.false, AV.list (Ty.prod Ty.str (Ty.prod Ty.str Ty.str)) x_1217 Bool.false, AV.list Ty.str x_1218 Bool.false, AV.list (Ty.prod Ty.str (Ty.prod (Ty.int IntKind.i64) (Ty.prod (Ty.prod (Ty.int IntKind.i64) (Ty.prod (Ty.int IntKind.i64) (Ty.int IntKind.i64))) (Ty.prod Ty.str Ty.bool)))) x_1219 Bool.false, AV.list (Ty.prod Ty.str (Ty.prod Ty.str Ty.bool)) x_1220 Bool.false, AV.list (Ty.prod (Ty.int IntKind.i64) (Ty.prod Ty.str (Ty.prod Ty.str (Ty.prod Ty.str (Ty.prod (Ty.prod (Ty.int IntKind.i64) (Ty.prod (Ty.int IntKind.i64) (Ty.int IntKind.i64))) (Ty.prod (Ty.int IntKind.i64) (Ty.prod Ty.bool (Ty.prod Ty.bool (Ty.prod (Ty.list (Ty.prod Ty.str Ty.str)) (Ty.list Ty.str)))))))))) x_1221 Bool.false, AV.list (Ty.prod (Ty.int IntKind.i64) (Ty.prod Ty.str (Ty.prod Ty.str (Ty.prod Ty.str (Ty.prod (Ty.prod (Ty.int IntKind.i64) (Ty.prod (Ty.int IntKind.i64) (Ty.int IntKind.i64))) (Ty.prod (Ty.int IntKind.i64) (Ty.prod Ty.bool (Ty.prod Ty.bool (Ty.prod (Ty.list (Ty.prod Ty.str Ty.str)) (Ty.list Ty.str)))))))))) x_1222 Bool.false, AV.list (Ty.prod (Ty.int IntKind.i64) (Ty.prod Ty.str (Ty.prod Ty.str (Ty.prod Ty.str (Ty.prod (Ty.prod (Ty.int IntKind.i64) (Ty.prod (Ty.int IntKind.i64) (Ty.int IntKind.i64))) (Ty.prod (Ty.int IntKind.i64) (Ty.prod Ty.bool (Ty.prod Ty.bool (Ty.prod (Ty.list (Ty.prod Ty.str Ty.str)) (Ty.list Ty.str)))))))))) x_1223 Bool.false, AV.list (Ty.prod (Ty.int IntKind.i64) (Ty.prod Ty.str (Ty.prod Ty.str (Ty.prod Ty.str (Ty.prod (Ty.prod (Ty.int IntKind.i64) (Ty.prod (Ty.int IntKind.i64) (Ty.int IntKind.i64))) (Ty.prod (Ty.int IntKind.i64) (Ty.prod Ty.bool (Ty.prod Ty.bool (Ty.prod (Ty.list (Ty.prod Ty.str Ty.str)) (Ty.list Ty.str)))))))))) x_1224 Bool.false], AO.row Ty.str (Prod.snd s_1270), AO.box [AV.str (Prod.fst (List.getD st_1207 (Int.toNat (Prod.fst s_1270)) ([], [], (0 : Int), [], [], [], [], [], []))), AV.str (Prod.fst (Prod.snd (List.getD st_1207 (Int.toNat (Prod.fst s_1270)) ([], [], (0 : Int), [], [], [], [], [], [])))), AV.int IntKind.i64 (Prod.fst (Prod.snd (Prod.snd (List.getD st_1207 (Int.toNat (Prod.fst s_1270)) ([], [], (0 : Int), [], [], [], [], [], []))))), AV.list (Ty.list (Ty.prod Ty.str (Ty.prod Ty.str Ty.str))) (Prod.fst (Prod.snd (Prod.snd (Prod.snd (List.getD st_1207 (Int.toNat (Prod.fst s_1270)) ([], [], (0 : Int), [], [], [], [], [], [])))))) Bool.false, AV.list (Ty.prod Ty.str (Ty.prod Ty.str Ty.str)) (Prod.fst (Prod.snd (Prod.snd (Prod.snd (Prod.snd (List.getD st_1207 (Int.toNat (Prod.fst s_1270)) ([], [], (0 : Int), [], [], [], [], [], []))))))) Bool.false, AV.list Ty.str (Prod.fst (Prod.snd (Prod.snd (Prod.snd (Prod.snd (Prod.snd (List.getD st_1207 (Int.toNat (Prod.fst s_1270)) ([], [], (0 : Int), [], [], [], [], [], [])))))))) Bool.false, AV.list (Ty.prod Ty.str Ty.str) (Prod.fst (Prod.snd (Prod.snd (Prod.snd (Prod.snd (Prod.snd (Prod.snd (List.getD st_1207 (Int.toNat (Prod.fst s_1270)) ([], [], (0 : Int), [], [], [], [], [], []))))))))) Bool.false, AV.list Ty.str (Prod.fst (Prod.snd (Prod.snd (Prod.snd (Prod.snd (Prod.snd (Prod.snd (Prod.snd (List.getD st_1207 (Int.toNat (Prod.fst s_1270)) ([], [], (0 : Int), [], [], [], [], [], [])))))))))) Bool.false, AV.list Ty.str (Prod.snd (Prod.snd (Prod.snd (Prod.snd (Prod.snd (Prod.snd (Prod.snd (Prod.snd (List.getD st_1207 (Int.toNat (Prod.fst s_1270)) ([], [], (0 : Int), [], [], [], [], [], [])))))))))) Bool.false]] (0 : Nat))) (check_Conflicts_res r) (check_Conflicts_out r))) t) h1267 (fun t h1267 => ?_) (fun t1264 h1264 K1264 => ?_)
      ·
        rcases t with t_1259 | t_1260
        · replace h1267 := W.inl (h1267)
          refine W.elimL (?_)
          cases h1267; exact W.at 2 100000 [Co.own 5 (Ty.str)] [3, 5, 9, 10, 11] (by kernel_rfl) K1267
        · replace h1267 := W.inr (h1267)
          refine W.elimR (?_)
          refine W.bind h1267 fun a_1261 ha_1261 h1267 => ?_
          refine W.call 2 100000 (by kernel_rfl) (check_against_con ha_1261) (by kernel_rfl) ?_
          refine W.cond 2 100000 h1267 (by kernel_rfl) (fun h1267 => ?_) (fun h1267 => ?_)
          ·
            refine W.yes 2 100000 (by kernel_rfl) ?_
            refine W.yes 2 100000 (by kernel_rfl) ?_
            refine W.yes 2 100000 (by kernel_rfl) ?_
            refine W.yes 2 100000 (by kernel_rfl) ?_
            refine W.yes 2 100000 (by kernel_rfl) ?_
            refine W.yes 2 100000 (by kernel_rfl) ?_
            refine W.yes 2 100000 (by kernel_rfl) ?_
            refine W.yes 2 100000 (by kernel_rfl) ?_
            refine W.needT 2 100000 h1267 (by kernel_rfl) (fun h1267 => ?_)
            cases h1267; exact W.at 2 100000 [Co.own 5 (Ty.str)] [3, 5, 9, 10, 11] (by kernel_rfl) K1267
          ·
            refine W.no 2 100000 (by kernel_rfl) ?_
            refine W.no 2 100000 (by kernel_rfl) ?_
            refine W.no 2 100000 (by kernel_rfl) ?_
            refine W.no 2 100000 (by kernel_rfl) ?_
            refine W.no 2 100000 (by kernel_rfl) ?_
            refine W.no 2 100000 (by kernel_rfl) ?_
            refine W.bind h1267 fun a_1262 ha_1262 h1267 => ?_
            refine W.call 2 100000 (by kernel_rfl) (check_against_con ha_1262) (by kernel_rfl) ?_
            refine W.no 2 100000 (by kernel_rfl) ?_
            refine W.cond 2 100000 h1267 (by kernel_rfl) (fun h1267 => ?_) (fun h1267 => ?_)
            ·
              refine W.needT 2 100000 h1267 (by kernel_rfl) (fun h1267 => ?_)
              cases h1267; exact W.at 2 100000 [Co.own 5 (Ty.str)] [3, 5, 9, 10, 11] (by kernel_rfl) K1267
            ·
              cases h1267; exact W.at 2 100000 [Co.own 5 (Ty.str)] [3, 5, 9, 10, 11] (by kernel_rfl) K1267
      · refine W.next 2 5 (by kernel_rfl) ?_
        refine W.cond 6 100000 h1264 (by kernel_rfl) (fun h1264 => ?_) (fun h1264 => ?_)
        ·
          refine W.yes 6 100000 (by kernel_rfl) ?_
          refine W.yes 6 100000 (by kernel_rfl) ?_
          refine W.yes 6 100000 (by kernel_rfl) ?_
          refine W.yes 6 100000 (by kernel_rfl) ?_
          cases h1264; exact W.at 6 100000 [] [3, 5, 9, 10, 11] (by kernel_rfl) K1264
        ·
          refine W.no 6 100000 (by kernel_rfl) ?_
          refine W.no 6 100000 (by kernel_rfl) ?_
          refine W.no 6 100000 (by kernel_rfl) ?_
          refine W.cond 6 100000 h1264 (by kernel_rfl) (fun h1264 => ?_) (fun h1264 => ?_)
          ·
            cases h1264; exact W.at 6 100000 [] [3, 5, 9, 10, 11] (by kernel_rfl) K1264
          ·
            cases h1264; exact W.at 6 100000 [] [3, 5, 7, 9, 10, 11] (by kernel_rfl) K1264
    ·
      cases h1267; exact W.at 2 100000 [] [5] (by kernel_rfl) K1267

theorem cellarerref20_Conflicts_con {st_1273 : List (List UInt8 × List UInt8 × Int × List (List (List UInt8 × List UInt8 × List UInt8)) × List (List UInt8 × List UInt8 × List UInt8) × List (List UInt8) × List (List UInt8 × List UInt8) × List (List UInt8) × List (List UInt8))} {st_1274 : List (List UInt8 × List UInt8 × List UInt8)} {st_1275 : List (List UInt8 × Int × Int × Int)} {st_1276 : List (List UInt8 × List UInt8 × Bool × List UInt8 × List (List UInt8 × List UInt8) × List (List UInt8 × Int × List (List UInt8)))} {st_1277 : List (List UInt8 × List UInt8 × Bool)} {st_1278 : List (List UInt8 × List (List UInt8))} {st_1279 : List (List UInt8 × List (List UInt8))} {x_1280 : List UInt8} {x_1281 : List UInt8} {x_1282 : List (List (List UInt8 × List UInt8 × List UInt8))} {x_1283 : List (List UInt8 × List UInt8 × List UInt8)} {x_1284 : List (List UInt8)} {x_1285 : List (List UInt8 × Int × (Int × Int × Int) × List UInt8 × Bool)} {x_1286 : List (List UInt8 × List UInt8 × Bool)} {x_1287 : List (Int × List UInt8 × List UInt8 × List UInt8 × (Int × Int × Int) × Int × Bool × Bool × List (List UInt8 × List UInt8) × List (List UInt8))} {x_1288 : List (Int × List UInt8 × List UInt8 × List UInt8 × (Int × Int × Int) × Int × Bool × Bool × List (List UInt8 × List UInt8) × List (List UInt8))} {x_1289 : List (Int × List UInt8 × List UInt8 × List UInt8 × (Int × Int × Int) × Int × Bool × Bool × List (List UInt8 × List UInt8) × List (List UInt8))} {x_1290 : List (Int × List UInt8 × List UInt8 × List UInt8 × (Int × Int × Int) × Int × Bool × Bool × List (List UInt8 × List UInt8) × List (List UInt8))} {r : List (List UInt8)} (h : cellarerref20_Conflicts st_1273 st_1274 st_1275 st_1276 st_1277 st_1278 st_1279 x_1280 x_1281 x_1282 x_1283 x_1284 x_1285 x_1286 x_1287 x_1288 x_1289 x_1290 = some r) : Con Go.Proofs.Tryd.prog 18 [AV.agg [AV.list (Ty.prod Ty.str (Ty.prod Ty.str (Ty.prod (Ty.int IntKind.i64) (Ty.prod (Ty.list (Ty.list (Ty.prod Ty.str (Ty.prod Ty.str Ty.str)))) (Ty.prod (Ty.list (Ty.prod Ty.str (Ty.prod Ty.str Ty.str))) (Ty.prod (Ty.list Ty.str) (Ty.prod (Ty.list (Ty.prod Ty.str Ty.str)) (Ty.prod (Ty.list Ty.str) (Ty.list Ty.str))))))))) st_1273 Bool.false, AV.list (Ty.prod Ty.str (Ty.prod Ty.str Ty.str)) st_1274 Bool.false, AV.list (Ty.prod Ty.str (Ty.prod (Ty.int IntKind.i64) (Ty.prod (Ty.int IntKind.i64) (Ty.int IntKind.i64)))) st_1275 Bool.false, AV.list (Ty.prod Ty.str (Ty.prod Ty.str (Ty.prod Ty.bool (Ty.prod Ty.str (Ty.prod (Ty.list (Ty.prod Ty.str Ty.str)) (Ty.list (Ty.prod Ty.str (Ty.prod (Ty.int IntKind.i64) (Ty.list Ty.str))))))))) st_1276 Bool.false, AV.list (Ty.prod Ty.str (Ty.prod Ty.str Ty.bool)) st_1277 Bool.false, AV.list (Ty.prod Ty.str (Ty.list Ty.str)) st_1278 Bool.false, AV.list (Ty.prod Ty.str (Ty.list Ty.str)) st_1279 Bool.false], AV.agg [AV.str x_1280, AV.str x_1281, AV.list (Ty.list (Ty.prod Ty.str (Ty.prod Ty.str Ty.str))) x_1282 Bool.false, AV.list (Ty.prod Ty.str (Ty.prod Ty.str Ty.str)) x_1283 Bool.false, AV.list Ty.str x_1284 Bool.false, AV.list (Ty.prod Ty.str (Ty.prod (Ty.int IntKind.i64) (Ty.prod (Ty.prod (Ty.int IntKind.i64) (Ty.prod (Ty.int IntKind.i64) (Ty.int IntKind.i64))) (Ty.prod Ty.str Ty.bool)))) x_1285 Bool.false, AV.list (Ty.prod Ty.str (Ty.prod Ty.str Ty.bool)) x_1286 Bool.false, AV.list (Ty.prod (Ty.int IntKind.i64) (Ty.prod Ty.str (Ty.prod Ty.str (Ty.prod Ty.str (Ty.prod (Ty.prod (Ty.int IntKind.i64) (Ty.prod (Ty.int IntKind.i64) (Ty.int IntKind.i64))) (Ty.prod (Ty.int IntKind.i64) (Ty.prod Ty.bool (Ty.prod Ty.bool (Ty.prod (Ty.list (Ty.prod Ty.str Ty.str)) (Ty.list Ty.str)))))))))) x_1287 Bool.false, AV.list (Ty.prod (Ty.int IntKind.i64) (Ty.prod Ty.str (Ty.prod Ty.str (Ty.prod Ty.str (Ty.prod (Ty.prod (Ty.int IntKind.i64) (Ty.prod (Ty.int IntKind.i64) (Ty.int IntKind.i64))) (Ty.prod (Ty.int IntKind.i64) (Ty.prod Ty.bool (Ty.prod Ty.bool (Ty.prod (Ty.list (Ty.prod Ty.str Ty.str)) (Ty.list Ty.str)))))))))) x_1288 Bool.false, AV.list (Ty.prod (Ty.int IntKind.i64) (Ty.prod Ty.str (Ty.prod Ty.str (Ty.prod Ty.str (Ty.prod (Ty.prod (Ty.int IntKind.i64) (Ty.prod (Ty.int IntKind.i64) (Ty.int IntKind.i64))) (Ty.prod (Ty.int IntKind.i64) (Ty.prod Ty.bool (Ty.prod Ty.bool (Ty.prod (Ty.list (Ty.prod Ty.str Ty.str)) (Ty.list Ty.str)))))))))) x_1289 Bool.false, AV.list (Ty.prod (Ty.int IntKind.i64) (Ty.prod Ty.str (Ty.prod Ty.str (Ty.prod Ty.str (Ty.prod (Ty.prod (Ty.int IntKind.i64) (Ty.prod (Ty.int IntKind.i64) (Ty.int IntKind.i64))) (Ty.prod (Ty.int IntKind.i64) (Ty.prod Ty.bool (Ty.prod Ty.bool (Ty.prod (Ty.list (Ty.prod Ty.str Ty.str)) (Ty.list Ty.str)))))))))) x_1290 Bool.false]] [] (cellarerref20_Conflicts_res r) (cellarerref20_Conflicts_out r) := by
  refine W.con (by kernel_rfl) ?_
  unfold cellarerref20_Conflicts at h
  refine W.at 0 100000 [Co.own 5 (Ty.str)] [2, 3, 5, 6] (c' := (fun (s_1340 : Int × List (List UInt8)) => (Cfg.mk Mode.run (headTodo Go.Proofs.Tryd.prog 18 0) (St.mk [jj, jj, AV.ptr (0 : Nat) (0 : Nat), AV.ptr (1 : Nat) (0 : Nat), jj, AV.view (2 : Nat) (0 : Nat) Option.none, AV.int IntKind.i64 (Prod.fst s_1340), jj, jj, jj, jj, jj, jj, jj, jj, jj, jj, jj, jj, jj, jj, jj, jj, jj, jj, jj, jj, jj, jj, jj, jj, jj, jj, jj, jj, jj, jj, jj, jj, jj, jj, jj, jj, jj, jj, jj, jj, jj, jj, jj, jj, jj, jj, jj] [AO.box [AV.list (Ty.prod Ty.str (Ty.prod Ty.str (Ty.prod (Ty.int IntKind.i64) (Ty.prod (Ty.list (Ty.list (Ty.prod Ty.str (Ty.prod Ty.str Ty.str)))) (Ty.prod (Ty.list (Ty.prod Ty.str (Ty.prod Ty.str Ty.str))) (Ty.prod (Ty.list Ty.str) (Ty.prod (Ty.list (Ty.prod Ty.str Ty.str)) (Ty.prod (Ty.list Ty.str) (Ty.list Ty.str))))))))) st_1273 Bool.false, AV.list (Ty.prod Ty.str (Ty.prod Ty.str Ty.str)) st_1274 Bool.false, AV.list (Ty.prod Ty.str (Ty.prod (Ty.int IntKind.i64) (Ty.prod (Ty.int IntKind.i64) (Ty.int IntKind.i64)))) st_1275 Bool.false, AV.list (Ty.prod Ty.str (Ty.prod Ty.str (Ty.prod Ty.bool (Ty.prod Ty.str (Ty.prod (Ty.list (Ty.prod Ty.str Ty.str)) (Ty.list (Ty.prod Ty.str (Ty.prod (Ty.int IntKind.i64) (Ty.list Ty.str))))))))) st_1276 Bool.false, AV.list (Ty.prod Ty.str (Ty.prod Ty.str Ty.bool)) st_1277 Bool.false, AV.list (Ty.prod Ty.str (Ty.list Ty.str)) st_1278 Bool.false, AV.list (Ty.prod Ty.str (Ty.list Ty.str)) st_1279 Bool.false], AO.box [AV.str x_1280, AV.str x_1281, AV.list (Ty.list (Ty.prod Ty.str (Ty.prod Ty.str Ty.str))) x_1282 Bool.false, AV.list (Ty.prod Ty.str (Ty.prod Ty.str Ty.str)) x_1283 Bool.false, AV.list Ty.str x_1284 Bool.false, AV.list (Ty.prod Ty.str (Ty.prod (Ty.int IntKind.i64) (Ty.prod (Ty.prod (Ty.int IntKind.i64) (Ty.prod (Ty.int IntKind.i64) (Ty.int IntKind.i64))) (Ty.prod Ty.str Ty.bool)))) x_1285 Bool.false, AV.list (Ty.prod Ty.str (Ty.prod Ty.str Ty.bool)) x_1286 Bool.false, AV.list (Ty.prod (Ty.int IntKind.i64) (Ty.prod Ty.str (Ty.prod Ty.str (Ty.prod Ty.str (Ty.prod (Ty.prod (Ty.int IntKind.i64) (Ty.prod (Ty.int IntKind.i64) (Ty.int IntKind.i64))) (Ty.prod (Ty.int IntKind.i64) (Ty.prod Ty.bool (Ty.prod Ty.bool (Ty.prod (Ty.list (Ty.prod Ty.str Ty.str)) (Ty.list Ty.str)))))))))) x_1287 Bool.false, AV.list (Ty.prod (Ty.int IntKind.i64) (Ty.prod Ty.str (Ty.prod Ty.str (Ty.prod Ty.str (Ty.prod (Ty.prod (Ty.int IntKind.i64) (Ty.prod (Ty.int IntKind.i64) (Ty.int IntKind.i64))) (Ty.prod (Ty.int IntKind.i64) (Ty.prod Ty.bool (Ty.prod Ty.bool (Ty.prod (Ty.list (Ty.prod Ty.str Ty.str)) (Ty.list Ty.str)))))))))) x_1288 Bool.false, AV.list (Ty.prod (Ty.int IntKind.i64) (Ty.prod Ty.str (Ty.prod Ty.str (Ty.prod Ty.str (Ty.prod (Ty.prod (Ty.int IntKind.i64) (Ty.prod (Ty.int IntKind.i64) (Ty.int IntKind.i64))) (Ty.prod (Ty.int IntKind.i64) (Ty.prod Ty.bool (Ty.prod Ty.bool (Ty.prod (Ty.list (Ty.prod Ty.str Ty.str)) (Ty.list Ty.str)))))))))) x_1289 Bool.false, AV.list (Ty.prod (Ty.int IntKind.i64) (Ty.prod Ty.str (Ty.prod Ty.str (Ty.prod Ty.str (Ty.prod (Ty.prod (Ty.int IntKind.i64) (Ty.prod (Ty.int IntKind.i64) (Ty.int IntKind.i64))) (Ty.prod (Ty.int IntKind.i64) (Ty.prod Ty.bool (Ty.prod Ty.bool (Ty.prod (Ty.list (Ty.prod Ty.str Ty.str)) (Ty.list Ty.str)))))))))) x_1290 Bool.false], AO.row Ty.str (Prod.snd s_1340)] (0 : Nat)))) ((0 : Int), [])) (by kernel_rfl) ?_
  refine W.loop (fun (s_1340 : Int × List (List UInt8)) => (Cfg.mk Mode.run (headTodo Go.Proofs.Tryd.prog 18 0) (St.mk [jj, jj, AV.ptr (0 : Nat) (0 : Nat), AV.ptr (1 : Nat) (0 : Nat), jj, AV.view (2 : Nat) (0 : Nat) Option.none, AV.int IntKind.i64 (Prod.fst s_1340), jj, jj, jj, jj, jj, jj, jj, jj, jj, jj, jj, jj, jj, jj, jj, jj, jj, jj, jj, jj, jj, jj, jj, jj, jj, jj, jj, jj, jj, jj, jj, jj, jj, jj, jj, jj, jj, jj, jj, jj, jj, jj, jj, jj, jj, jj, jj] [AO.box [AV.list (Ty.prod Ty.str (Ty.prod Ty.str (Ty.prod (Ty.int IntKind.i64) (Ty.prod (Ty.list (Ty.list (Ty.prod Ty.str (Ty.prod Ty.str Ty.str)))) (Ty.prod (Ty.list (Ty.prod Ty.str (Ty.prod Ty.str Ty.str))) (Ty.prod (Ty.list Ty.str) (Ty.prod (Ty.list (Ty.prod Ty.str Ty.str)) (Ty.prod (Ty.list Ty.str) (Ty.list Ty.str))))))))) st_1273 Bool.false, AV.list (Ty.prod Ty.str (Ty.prod Ty.str Ty.str)) st_1274 Bool.false, AV.list (Ty.prod Ty.str (Ty.prod (Ty.int IntKind.i64) (Ty.prod (Ty.int IntKind.i64) (Ty.int IntKind.i64)))) st_1275 Bool.false, AV.list (Ty.prod Ty.str (Ty.prod Ty.str (Ty.prod Ty.bool (Ty.prod Ty.str (Ty.prod (Ty.list (Ty.prod Ty.str Ty.str)) (Ty.list (Ty.prod Ty.str (Ty.prod (Ty.int IntKind.i64) (Ty.list Ty.str))))))))) st_1276 Bool.false, AV.list (Ty.prod Ty.str (Ty.prod Ty.str Ty.bool)) st_1277 Bool.false, AV.list (Ty.prod Ty.str (Ty.list Ty.str)) st_1278 Bool.false, AV.list (Ty.prod Ty.str (Ty.list Ty.str)) st_1279 Bool.false], AO.box [AV.str x_1280, AV.str x_1281, AV.list (Ty.list (Ty.prod Ty.str (Ty.prod Ty.str Ty.str))) x_1282 Bool.false, AV.list (Ty.prod Ty.str (Ty.prod Ty.str Ty.str)) x_1283 Bool.false, AV.list Ty.str x_1284 Bool.false, AV.list (Ty.prod Ty.str (Ty.prod (Ty.int IntKind.i64) (Ty.prod (Ty.prod (Ty.int IntKind.i64) (Ty.prod (Ty.int IntKind.i64) (Ty.int IntKind.i64))) (Ty.prod Ty.str Ty.bool)))) x_1285 Bool.false, AV.list (Ty.prod Ty.str (Ty.prod Ty.str Ty.bool)) x_1286 Bool.false, AV.list (Ty.prod (Ty.int IntKind.i64) (Ty.prod Ty.str (Ty.prod Ty.str (Ty.prod Ty.str (Ty.prod (Ty.prod (Ty.int IntKind.i64) (Ty.prod (Ty.int IntKind.i64) (Ty.int IntKind.i64))) (Ty.prod (Ty.int IntKind.i64) (Ty.prod Ty.bool (Ty.prod Ty.bool (Ty.prod (Ty.list (Ty.prod Ty.str Ty.str)) (Ty.list Ty.str)))))))))) x_1287 Bool.false, AV.list (Ty.prod (Ty.int IntKind.i64) (Ty.prod Ty.str (Ty.prod Ty.str (Ty.prod Ty.str (Ty.prod (Ty.prod (Ty.int IntKind.i64) (Ty.prod (Ty.int IntKind.i64) (Ty.int IntKind.i64))) (Ty.prod (Ty.int IntKind.i64) (Ty.prod Ty.bool (Ty.prod Ty.bool (Ty.prod (Ty.list (Ty.prod Ty.str Ty.str)) (Ty.list Ty.str)))))))))) x_1288 Bool.false, AV.list (Ty.prod (Ty.int IntKind.i64) (Ty.prod Ty.str (Ty.prod Ty.str (Ty.prod Ty.str (Ty.prod (Ty.prod (Ty.int IntKind.i64) (Ty.prod (Ty.int IntKind.i64) (Ty.int IntKind.i64))) (Ty.prod (Ty.int IntKind.i64) (Ty.prod Ty.bool (Ty.prod Ty.bool (Ty.prod (Ty.list (Ty.prod Ty.str Ty.str)) (Ty.list Ty.str)))))))))) x_1289 Bool.false, AV.list (Ty.prod (Ty.int IntKind.i64) (Ty.prod Ty.str (Ty.prod Ty.str (Ty.prod Ty.str (Ty.prod (Ty.prod (Ty.int IntKind.i64) (Ty.prod (Ty.int IntKind.i64) (Ty.int IntKind.i64))) (Ty.prod (Ty.int IntKind.i64) (Ty.prod Ty.bool (Ty.prod Ty.bool (Ty.prod (Ty.list (Ty.prod Ty.str Ty.str)) (Ty.list Ty.str)))))))))) x_1290 Bool.false], AO.row Ty.str (Prod.snd s_1340)] (0 : Nat)))) (fun t_1335 => Walk Go.Proofs.Tryd.prog 18 (Cfg.mk Mode.run ((headTodo Go.Proofs.Tryd.prog 18 0).drop 3) (St.mk [jj, jj, jj, jj, jj, AV.view (0 : Nat) (0 : Nat) Option.none, jj, jj, jj, jj, jj, jj, jj, jj, jj, jj, jj, jj, jj, jj, jj, jj, jj, jj, jj, jj, jj, jj, jj, jj, jj, jj, jj, jj, jj, jj, jj, jj, jj, jj, jj, jj, jj, jj, jj, jj, jj, jj, jj, jj, jj, jj, jj, jj] [AO.row Ty.str t_1335] (0 : Nat))) (cellarerref20_Conflicts_res r) (cellarerref20_Conflicts_out r)) h (fun t_1335 h => ?_) (fun s_1340 x1337 h1337 K1337 => ?_)
  ·
    exact W.retT 0 100000 h (by kernel_rfl)
  · unfold cellarerref20_Conflicts_b0 at h1337
    refine W.cond 2 100000 h1337 (by kernel_rfl) (fun h1337 => ?_) (fun h1337 => ?_)
    ·
      refine W.needT 2 100000 h1337 (by kernel_rfl) (fun h1337 => ?_)
      refine W.cond 2 100000 h1337 (by kernel_rfl) (fun h1337 => ?_) (fun h1337 => ?_)
      ·
        refine W.yes 2 100000 (by kernel_rfl) ?_
        refine W.yes 2 100000 (by kernel_rfl) ?_
        refine W.yes 2 100000 (by kernel_rfl) ?_
        refine W.cond 2 100000 h1337 (by kernel_rfl) (fun h1337 => ?_) (fun h1337 => ?_)
        ·
          refine W.yes 2 100000 (by kernel_rfl) ?_
          refine W.yes 2 100000 (by kernel_rfl) ?_
          refine W.yes 2 100000 (by kernel_rfl) ?_
          refine W.yes 2 100000 (by kernel_rfl) ?_
          refine W.yes 2 100000 (by kernel_rfl) ?_
          refine W.yes 2 100000 (by kernel_rfl) ?_
          refine W.bind h1337 fun a_1332 ha_1332 h1337 => ?_
          refine W.call 2 100000 (by kernel_rfl) (cellarerref20_against_con ha_1332) (by kernel_rfl) ?_
          refine W.yes 2 100000 (by kernel_rfl) ?_
          refine W.cond 2 100000 h1337 (by kernel_rfl) (fun h1337 => ?_) (fun h1337 => ?_)
          ·
            refine W.yes 2 100000 (by kernel_rfl) ?_
            refine W.yes 2 100000 (by kernel_rfl) ?_
            refine W.yes 2 100000 (by kernel_rfl) ?_
            refine W.yes 2 100000 (by kernel_rfl) ?_
            refine W.yes 2 100000 (by kernel_rfl) ?_
            refine W.yes 2 100000 (by kernel_rfl) ?_
            refine W.yes 2 100000 (by kernel_rfl) ?_
            refine W.yes 2 100000 (by kernel_rfl) ?_
            refine W.yes 2 100000 (by kernel_rfl) ?_
            refine W.yes 2 100000 (by kernel_rfl) ?_
            refine W.needT 2 100000 h1337 (by kernel_rfl) (fun h1337 => ?_)
            cases h1337; exact W.at 2 100000 [Co.own 5 (Ty.str)] [2, 3, 5, 6] (by kernel_rfl) K1337
          ·
            refine W.no 2 100000 (by kernel_rfl) ?_
            refine W.no 2 100000 (by kernel_rfl) ?_
            refine W.no 2 100000 (by kernel_rfl) ?_
            refine W.no 2 100000 (by kernel_rfl) ?_
            refine W.no 2 100000 (by kernel_rfl) ?_
            refine W.no 2 100000 (by kernel_rfl) ?_
            refine W.bind h1337 fun a_1333 ha_1333 h1337 => ?_
            refine W.call 2 100000 (by kernel_rfl) (cellarerref20_against_con ha_1333) (by kernel_rfl) ?_
            refine W.yes 2 100000 (by kernel_rfl) ?_
            refine W.no 2 100000 (by kernel_rfl) ?_
            refine W.yes 2 100000 (by kernel_rfl) ?_
            refine W.cond 2 100000 h1337 (by kernel_rfl) (fun h1337 => ?_) (fun h1337 => ?_)
            ·
              refine W.needT 2 100000 h1337 (by kernel_rfl) (fun h1337 => ?_)
              cases h1337; exact W.at 2 100000 [Co.own 5 (Ty.str)] [2, 3, 5, 6] (by kernel_rfl) K1337
            ·
              cases h1337; exact W.at 2 100000 [Co.own 5 (Ty.str)] [2, 3, 5, 6] (by kernel_rfl) K1337
        ·
          refine W.no 2 100000 (by kernel_rfl) ?_
          refine W.no 2 100000 (by kernel_rfl) ?_
          refine W.no 2 100000 (by kernel_rfl) ?_
          refine W.no 2 100000 (by kernel_rfl) ?_
          refine W.no 2 100000 (by kernel_rfl) ?_
          refine W.no 2 100000 (by kernel_rfl) ?_
          refine W.no 2 100000 (by kernel_rfl) ?_
          refine W.no 2 100000 (by kernel_rfl) ?_
          refine W.no 2 100000 (by kernel_rfl) ?_
          refine W.no 2 100000 (by kernel_rfl) ?_
          cases h1337; exact W.at 2 100000 [Co.own 5 (Ty.str)] [2, 3, 5, 6] (by kernel_rfl) K1337
      ·
        refine W.no 2 100000 (by kernel_rfl) ?_
        refine W.no 2 100000 (by kernel_rfl) ?_
        refine W.no 2 100000 (by kernel_rfl) ?_
        refine W.no 2 100000 (by kernel_rfl) ?_
        refine W.no 2 100000 (by kernel_rfl) ?_
        refine W.no 2 100000 (by kernel_rfl) ?_
        refine W.no 2 100000 (by kernel_rfl) ?_
        refine W.no 2 100000 (by kernel_rfl) ?_
        refine W.no 2 100000 (by kernel_rfl) ?_
        refine W.no 2 100000 (by kernel_rfl) ?_
        refine W.no 2 100000 (by kernel_rfl) ?_
        refine W.no 2 100000 (by kernel_rfl) ?_
        refine W.no 2 100000 (by kernel_rfl) ?_
        refine W.no 2 100000 (by kernel_rfl) ?_
        cases h1337; exact W.at 2 100000 [Co.own 5 (Ty.str)] [2, 3, 5, 6] (by kernel_rfl) K1337
    ·
      cases h1337; exact W.at 2 100000 [] [5] (by kernel_rfl) K1337

theorem check_Needed_con {st_1343 : List (List UInt8 × List UInt8 × Int × List (List (List UInt8 × List UInt8 × List UInt8)) × List (List UInt8 × List UInt8 × List UInt8) × List (List UInt8) × List (List UInt8 × List UInt8) × List (List UInt8) × List (List UInt8))} {st_1344 : List (List UInt8 × List UInt8 × List UInt8)} {st_1345 : List (List UInt8 × Int × Int × Int)} {st_1346 : List (List UInt8 × List UInt8 × Bool × List UInt8 × List (List UInt8 × List UInt8) × List (List UInt8 × Int × List (List UInt8)))} {st_1347 : List (List UInt8 × List UInt8 × Bool)} {st_1348 : List (List UInt8 × List (List UInt8))} {st_1349 : List (List UInt8 × List (List UInt8))} {name_1350 : List UInt8} {r : List (List UInt8)} (h : check_Needed st_1343 st_1344 st_1345 st_1346 st_1347 st_1348 st_1349 name_1350 = some r) : Con Go.Proofs.Tryd.prog 15 [AV.agg [AV.list (Ty.prod Ty.str (Ty.prod Ty.str (Ty.prod (Ty.int IntKind.i64) (Ty.prod (Ty.list (Ty.list (Ty.prod Ty.str (Ty.prod Ty.str Ty.str)))) (Ty.prod (Ty.list (Ty.prod Ty.str (Ty.prod Ty.str Ty.str))) (Ty.prod (Ty.list Ty.str) (Ty.prod (Ty.list (Ty.prod Ty.str Ty.str)) (Ty.prod (Ty.list Ty.str) (Ty.list Ty.str))))))))) st_1343 Bool.false, AV.list (Ty.prod Ty.str (Ty.prod Ty.str Ty.str)) st_1344 Bool.false, AV.list (Ty.prod Ty.str (Ty.prod (Ty.int IntKind.i64) (Ty.prod (Ty.int IntKind.i64) (Ty.int IntKind.i64)))) st_1345 Bool.false, AV.list (Ty.prod Ty.str (Ty.prod Ty.str (Ty.prod Ty.bool (Ty.prod Ty.str (Ty.prod (Ty.list (Ty.prod Ty.str Ty.str)) (Ty.list (Ty.prod Ty.str (Ty.prod (Ty.int IntKind.i64) (Ty.list Ty.str))))))))) st_1346 Bool.false, AV.list (Ty.prod Ty.str (Ty.prod Ty.str Ty.bool)) st_1347 Bool.false, AV.list (Ty.prod Ty.str (Ty.list Ty.str)) st_1348 Bool.false, AV.list (Ty.prod Ty.str (Ty.list Ty.str)) st_1349 Bool.false], AV.str name_1350] [] (check_Needed_res r) (check_Needed_out r) := by
  refine W.con (by kernel_rfl) ?_
  unfold check_Needed at h
  refine W.bind h fun a_1351 ha_1351 h => ?_
  refine W.call 0 100000 (by kernel_rfl) (status_Drop_con ha_1351) (by kernel_rfl) ?_
  refine W.at 0 100000 [Co.own 6 (Ty.str)] [2, 5, 6, 16, 17, 18] (c' := (fun (s_1401 : Int × List (List UInt8)) => (Cfg.mk Mode.run (headTodo Go.Proofs.Tryd.prog 15 0) (St.mk [jj, jj, AV.ptr (0 : Nat) (0 : Nat), jj, jj, AV.ptr (1 : Nat) (0 : Nat), AV.view (2 : Nat) (0 : Nat) Option.none, jj, jj, jj, jj, jj, jj, jj, jj, jj, AV.view (3 : Nat) (0 : Nat) Option.none, AV.int IntKind.i64 ((↑(List.length a_1351) : Int) - (↑(0 : Nat) : Int)), AV.int IntKind.i64 (Prod.fst s_1401), jj, jj, jj, jj, jj, jj, jj, jj, jj, jj, jj, jj, jj, jj, jj, jj, jj, jj, jj, jj, jj, jj, jj, jj, jj, jj, jj] [AO.box [AV.list (Ty.prod Ty.str (Ty.prod Ty.str (Ty.prod (Ty.int IntKind.i64) (Ty.prod (Ty.list (Ty.list (Ty.prod Ty.str (Ty.prod Ty.str Ty.str)))) (Ty.prod (Ty.list (Ty.prod Ty.str (Ty.prod Ty.str Ty.str))) (Ty.prod (Ty.list Ty.str) (Ty.prod (Ty.list (Ty.prod Ty.str Ty.str)) (Ty.prod (Ty.list Ty.str) (Ty.list Ty.str))))))))) st_1343 Bool.false, AV.list (Ty.prod Ty.str (Ty.prod Ty.str Ty.str)) st_1344 Bool.false, AV.list (Ty.prod Ty.str (Ty.prod (Ty.int IntKind.i64) (Ty.prod (Ty.int IntKind.i64) (Ty.int IntKind.i64)))) st_1345 Bool.false, AV.list (Ty.prod Ty.str (Ty.prod Ty.str (Ty.prod Ty.bool (Ty.prod Ty.str (Ty.prod (Ty.list (Ty.prod Ty.str Ty.str)) (Ty.list (Ty.prod Ty.str (Ty.prod (Ty.int IntKind.i64) (Ty.list Ty.str))))))))) st_1346 Bool.false, AV.list (Ty.prod Ty.str (Ty.prod Ty.str Ty.bool)) st_1347 Bool.false, AV.list (Ty.prod Ty.str (Ty.list Ty.str)) st_1348 Bool.false, AV.list (Ty.prod Ty.str (Ty.list Ty.str)) st_1349 Bool.false], AO.box [AV.view (3 : Nat) (0 : Nat) Option.none, AV.list (Ty.prod Ty.str (Ty.prod Ty.str Ty.str)) st_1344 Bool.false, AV.list (Ty.prod Ty.str (Ty.prod (Ty.int IntKind.i64) (Ty.prod (Ty.int IntKind.i64) (Ty.int IntKind.i64)))) st_1345 Bool.false, AV.list (Ty.prod Ty.str (Ty.prod Ty.str (Ty.prod Ty.bool (Ty.prod Ty.str (Ty.prod (Ty.list (Ty.prod Ty.str Ty.str)) (Ty.list (Ty.prod Ty.str (Ty.prod (Ty.int IntKind.i64) (Ty.list Ty.str))))))))) st_1346 Bool.false, AV.list (Ty.prod Ty.str (Ty.prod Ty.str Ty.bool)) st_1347 Bool.false, AV.list (Ty.prod Ty.str (Ty.list Ty.str)) st_1348 Bool.false, AV.list (Ty.prod Ty.str (Ty.list Ty.str)) st_1349 Bool.false], AO.row Ty.str (Prod.snd s_1401), AO.row (Ty.prod Ty.str (Ty.prod Ty.str (Ty.prod (Ty.int IntKind.i64) (Ty.prod (Ty.list (Ty.list (Ty.prod Ty.str (Ty.prod Ty.str Ty.str)))) (Ty.prod (Ty.list (Ty.prod Ty.str (Ty.prod Ty.str Ty.str))) (Ty.prod (Ty.list Ty.str) (Ty.prod (Ty.list (Ty.prod Ty.str Ty.str)) (Ty.prod (Ty.list Ty.str) (Ty.list Ty.str))))))))) a_1351] (0 : Nat)))) ((0 : Int), [])) (by kernel_rfl) ?_
  refine W.loop (fun (s_1401 : Int × List (List UInt8)) => (Cfg.mk Mode.run (headTodo Go.Proofs.Tryd.prog 15 0) (St.mk [jj, jj, AV.ptr (0 : Nat) (0 : Nat), jj, jj, AV.ptr (1 : Nat) (0 : Nat), AV.view (2 : Nat) (0 : Nat) Option.none, jj, jj, jj, jj, jj, jj, jj, jj, jj, AV.view (3 : Nat) (0 : Nat) Option.none, AV.int IntKind.i64 ((↑(List.length a_1351) : Int) - (↑(0 : Nat) : Int)), AV.int IntKind.i64 (Prod.fst s_1401), jj, jj, jj, jj, jj, jj, jj, jj, jj, jj, jj, jj, jj, jj, jj, jj, jj, jj, jj, jj, jj, jj, jj, jj, jj, jj, jj] [AO.box [AV.list (Ty.prod Ty.str (Ty.prod Ty.str (Ty.prod (Ty.int IntKind.i64) (Ty.prod (Ty.list (Ty.list (Ty.prod Ty.str (Ty.prod Ty.str Ty.str)))) (Ty.prod (Ty.list (Ty.prod Ty.str (Ty.prod Ty.str Ty.str))) (Ty.prod (Ty.list Ty.str) (Ty.prod (Ty.list (Ty.prod Ty.str Ty.str)) (Ty.prod (Ty.list Ty.str) (Ty.list Ty.str))))))))) st_1343 Bool.false, AV.list (Ty.prod Ty.str (Ty.prod Ty.str Ty.str)) st_1344 Bool.false, AV.list (Ty.prod Ty.str (Ty.prod (Ty.int IntKind.i64) (Ty.prod (Ty.int IntKind.i64) (Ty.int IntKind.i64)))) st_1345 Bool.false, AV.list (Ty.prod Ty.str (Ty.prod Ty.str (Ty.prod Ty.bool (Ty.prod Ty.str (Ty.prod (Ty.list (Ty.prod Ty.str Ty.str)) (Ty.list (Ty.prod Ty.str (Ty.prod (Ty.int IntKind.i64) (Ty.list Ty.str))))))))) st_1346 Bool.false, AV.list (Ty.prod Ty.str (Ty.prod Ty.str Ty.bool)) st_1347 Bool.false, AV.list (Ty.prod Ty.str (Ty.list Ty.str)) st_1348 Bool.false, AV.list (Ty.prod Ty.str (Ty.list Ty.str)) st_1349 Bool.false], AO.box [AV.view (3 : Nat) (0 : Nat) Option.none, AV.list (Ty.prod Ty.str (Ty.prod Ty.str Ty.str)) st_1344 Bool.false, AV.list (Ty.prod Ty.str (Ty.prod (Ty.int IntKind.i64) (Ty.prod (Ty.int IntKind.i64) (Ty.int IntKind.i64)))) st_1345 Bool.false, AV.list (Ty.prod Ty.str (Ty.prod Ty.str (Ty.prod Ty.bool (Ty.prod Ty.str (Ty.prod (Ty.list (Ty.prod Ty.str Ty.str)) (Ty.list (Ty.prod Ty.str (Ty.prod (Ty.int IntKind.i64) (Ty.list Ty.str))))))))) st_1346 Bool.false, AV.list (Ty.prod Ty.str (Ty.prod Ty.str Ty.bool)) st_1347 Bool.false, AV.list (Ty.prod Ty.str (Ty.list Ty.str)) st_1348 Bool.false, AV.list (Ty.prod Ty.str (Ty.list Ty.str)) st_1349 Bool.false], AO.row Ty.str (Prod.snd s_1401), AO.row (Ty.prod Ty.str (Ty.prod Ty.str (Ty.prod (Ty.int IntKind.i64) (Ty.prod (Ty.list (Ty.list (Ty.prod Ty.str (Ty.prod Ty.str Ty.str)))) (Ty.prod (Ty.list (Ty.prod Ty.str (Ty.prod Ty.str Ty.str))) (Ty.prod (Ty.list Ty.str) (Ty.prod (Ty.list (Ty.prod Ty.str Ty.str)) (Ty.prod (Ty.list Ty.str) (Ty.list Ty.str))))))))) a_1351] (0 : Nat)))) (fun t_1396 => Walk Go.Proofs.Tryd.prog 15 (Cfg.mk Mode.run ((headTodo Go.Proofs.Tryd.prog 15 0).drop 3) (St.mk [jj, jj, jj, jj, jj, jj, AV.view (0 : Nat) (0 : Nat) Option.none, jj, jj, jj, jj, jj, jj, jj, jj, jj, jj, jj, jj, jj, jj, jj, jj, jj, jj, jj, jj, jj, jj, jj, jj, jj, jj, jj, jj, jj, jj, jj, jj, jj, jj, jj, jj, jj, jj, jj] [AO.row Ty.str t_1396] (0 : Nat))) (check_Needed_res r) (check_Needed_out r)) h (fun t_1396 h => ?_) (fun s_1401 x1398 h1398 K1398 => ?_)
  ·
    exact W.retT 0 100000 h (by kernel_rfl)
  · unfold check_Needed_b0 at h1398
    refine W.cond 2 100000 h1398 (by kernel_rfl) (fun h1398 => ?_) (fun h1398 => ?_)
    ·
      refine W.needT 2 100000 h1398 (by kernel_rfl) (fun h1398 => ?_)
      refine W.needT 2 100000 h1398 (by kernel_rfl) (fun h1398 => ?_)
      refine W.join (fun t_1391 => Walk Go.Proofs.Tryd.prog 15 (Cfg.mk Mode.run (seqTodo Go.Proofs.Tryd.prog 15 11) (St.mk [jj, jj, AV.ptr (0 : Nat) (0 : Nat), jj, jj, AV.ptr (1 : Nat) (0 : Nat), AV.view (2 : Nat) (0 : Nat) Option.none, jj, AV.ptr (3 : Nat) (0 : Nat), jj, jj, jj, jj, jj, jj, jj, AV.view (4 : Nat) (0 : Nat) Option.none, AV.int IntKind.i64 ((↑(List.length a_1351) : Int) - (↑(0 : Nat) : Int)), AV.int IntKind.i64 (Prod.fst s_1401), jj, jj, jj, jj, jj, AV.bool t_1391, jj, jj, jj, jj, jj, jj, jj, jj, jj, jj, jj, jj, jj, jj, jj, jj, jj, jj, jj, jj, jj] [AO.box [AV.list (Ty.prod Ty.str (Ty.prod Ty.str (Ty.prod (Ty.int IntKind.i64) (Ty.prod (Ty.list (Ty.list (Ty.prod Ty.str (Ty.prod Ty.str Ty.str)))) (Ty.prod (Ty.list (Ty.prod Ty.str (Ty.prod Ty.str Ty.str))) (Ty.prod (Ty.list Ty.str) (Ty.prod (Ty.list (Ty.prod Ty.str Ty.str)) (Ty.prod (Ty.list Ty.str) (Ty.list Ty.str))))))))) st_1343 Bool.false, AV.list (Ty.prod Ty.str (Ty.prod Ty.str Ty.str)) st_1344 Bool.false, AV.list (Ty.prod Ty.str (Ty.prod (Ty.int IntKind.i64) (Ty.prod (Ty.int IntKind.i64) (Ty.int IntKind.i64)))) st_1345 Bool.false, AV.list (Ty.prod Ty.str (Ty.prod Ty.str (Ty.prod Ty.bool (Ty.prod Ty.str (Ty.prod (Ty.list (Ty.prod Ty.str Ty.str)) (Ty.list (Ty.prod Ty.str (Ty.prod (Ty.int IntKind.i64) (Ty.list Ty.str))))))))) st_1346 Bool.false, AV.list (Ty.prod Ty.str (Ty.prod Ty.str Ty.bool)) st_1347 Bool.false, AV.list (Ty.prod Ty.str (Ty.list Ty.str)) st_1348 Bool.false, AV.list (Ty.prod Ty.str (Ty.list Ty.str)) st_1349 Bool.false], AO.box [AV.view (4 : Nat) (0 : Nat) Option.none, AV.list (Ty.prod Ty.str (Ty.prod Ty.str Ty.str)) st_1344 Bool.false, AV.list (Ty.prod Ty.str (Ty.prod (Ty.int IntKind.i64) (Ty.prod (Ty.int IntKind.i64) (Ty.int IntKind.i64)))) st_1345 Bool.false, AV.list (Ty.prod Ty.str (Ty.prod Ty.str (Ty.prod Ty.bool (Ty.prod Ty.str (Ty.prod (Ty.list (Ty.prod Ty.str Ty.str)) (Ty.list (Ty.prod Ty.str (Ty.prod (Ty.int IntKind.i64) (Ty.list Ty.str))))))))) st_1346 Bool.false, AV.list (Ty.prod Ty.str (Ty.prod Ty.str Ty.bool)) st_1347 Bool.false, AV.list (Ty.prod Ty.str (Ty.list Ty.str)) st_1348 Bool.false, AV.list (Ty.prod Ty.str (Ty.list Ty.str)) st_1349 Bool.false], AO.row Ty.str (Prod.snd s_1401), AO.box [AV.str (Prod.fst (List.getD a_1351 ((0 : Nat) + Int.toNat (Prod.fst s_1401)) ([], [], (0 : Int), [], [], [], [], [], []))), AV.str (Prod.fst (Prod.snd (List.getD a_1351 ((0 : Nat) + Int.toNat (Prod.fst s_1401)) ([], [], (0 : Int), [], [], [], [], [], [])))), AV.int IntKind.i64 (Prod.fst (Prod.snd (Prod.snd (List.getD a_1351 ((0 : Nat) + Int.toNat (Prod.fst s_1401)) ([], [], (0 : Int), [], [], [], [], [], []))))), AV.list (Ty.list (Ty.prod Ty.str (Ty.prod Ty.str Ty.str))) (Prod.fst (Prod.snd (Prod.snd (Prod.snd (List.getD a_1351 ((0 : Nat) + Int.toNat (Prod.fst s_1401)) ([], [], (0 : Int), [], [], [], [], [], [])))))) Bool.false, AV.list (Ty.prod Ty.str (Ty.prod Ty.str Ty.str)) (Prod.fst (Prod.snd (Prod.snd (Prod.snd (Prod.snd (List.getD a_1351 ((0 : Nat) + Int.toNat (Prod.fst s_1401)) ([], [], (0 : Int), [], [], [], [], [], []))))))) Bool.false, AV.list Ty.str (Prod.fst (Prod.snd (Prod.snd (Prod.snd (Prod.snd (Prod.snd (List.getD a_1351 ((0 : Nat) + Int.toNat (Prod.fst s_1401)) ([], [], (0 : Int), [], [], [], [], [], [])))))))) Bool.false, AV.list (Ty.prod Ty.str Ty.str) (Prod.fst (Prod.snd (Prod.snd (Prod.snd (Prod.snd (Prod.snd (Prod.snd (List.getD a_1351 ((0 : Nat) + Int.toNat (Prod.fst s_1401)) ([], [], (0 : Int), [], [], [], [], [], []))))))))) Bool.false, AV.list Ty.str (Prod.fst (Prod.snd (Prod.snd (Prod.snd (Prod.snd (Prod.snd (Prod.snd (Prod.snd (List.getD a_1351 ((0 : Nat) + Int.toNat (Prod.fst s_1401)) ([], [], (0 : Int), [], [], [], [], [], [])))))))))) Bool.false, AV.list Ty.str (Prod.snd (Prod.snd (Prod.snd (Prod.snd (Prod.snd (Prod.snd (Prod.snd (Prod.snd (List.getD a_1351 ((0 : Nat) + Int.toNat (Prod.fst s_1401)) ([], [], (0 : Int), [], [], [], [], [], [])))))))))) Bool.false], AO.row (Ty.prod Ty.str (Ty.prod Ty.str (Ty.prod (Ty.int IntKind.i64) (Ty.prod (Ty.list (Ty.list (Ty.prod Ty.str (Ty.prod Ty.str Ty.str)))) (Ty.prod (Ty.list (Ty.prod Ty.str (Ty.prod Ty.str Ty.str))) (Ty.prod (Ty.list Ty.str) (Ty.prod (Ty.list (Ty.prod Ty.str Ty.str)) (Ty.prod (Ty.list Ty.str) (Ty.list Ty.str))))))))) a_1351] (0 : Nat))) (check_Needed_res r) (check_Needed_out r)) h1398 (fun t_1391 h1398 => ?_) (fun t1395 h1395 K1395 => ?_)
      ·
        refine W.cond 2 100000 h1398 (by kernel_rfl) (fun h1398 => ?_) (fun h1398 => ?_)
        ·
          refine W.bind h1398 fun a_1392 ha_1392 h1398 => ?_
          refine W.call 2 100000 (by kernel_rfl) (check_Missing_con ha_1392) (by kernel_rfl) ?_
          refine W.bind h1398 fun a_1393 ha_1393 h1398 => ?_
          refine W.call 2 100000 (by kernel_rfl) (check_Missing_con ha_1393) (by kernel_rfl) ?_
          refine W.cond 2 100000 h1398 (by kernel_rfl) (fun h1398 => ?_) (fun h1398 => ?_)
          ·
            refine W.needT 2 100000 h1398 (by kernel_rfl) (fun h1398 => ?_)
            cases h1398; exact W.at 2 100000 [Co.own 6 (Ty.str)] [2, 5, 6, 16, 17, 18] (by kernel_rfl) K1398
          ·
            cases h1398; exact W.at 2 100000 [Co.own 6 (Ty.str)] [2, 5, 6, 16, 17, 18] (by kernel_rfl) K1398
        ·
          cases h1398; exact W.at 2 100000 [Co.own 6 (Ty.str)] [2, 5, 6, 16, 17, 18] (by kernel_rfl) K1398
      · refine W.next 2 10 (by kernel_rfl) ?_
        refine W.cond 7 100000 h1395 (by kernel_rfl) (fun h1395 => ?_) (fun h1395 => ?_)
        ·
          cases h1395; exact W.at 7 100000 [] [2, 5, 6, 8, 16, 17, 18, 24] (by kernel_rfl) K1395
        ·
          refine W.cond 7 100000 h1395 (by kernel_rfl) (fun h1395 => ?_) (fun h1395 => ?_)
          ·
            cases h1395; exact W.at 7 100000 [] [2, 5, 6, 8, 16, 17, 18, 24] (by kernel_rfl) K1395
          ·
            cases h1395; exact W.at 7 100000 [] [2, 5, 6, 8, 16, 17, 18, 24] (by kernel_rfl) K1395
    ·
      cases h1398; exact W.at 2 100000 [] [6] (by kernel_rfl) K1398

theorem cellarerref20_Needed_con {st_1404 : List (List UInt8 × List UInt8 × Int × List (List (List UInt8 × List UInt8 × List UInt8)) × List (List UInt8 × List UInt8 × List UInt8) × List (List UInt8) × List (List UInt8 × List UInt8) × List (List UInt8) × List (List UInt8))} {st_1405 : List (List UInt8 × List UInt8 × List UInt8)} {st_1406 : List (List UInt8 × Int × Int × Int)} {st_1407 : List (List UInt8 × List UInt8 × Bool × List UInt8 × List (List UInt8 × List UInt8) × List (List UInt8 × Int × List (List UInt8)))} {st_1408 : List (List UInt8 × List UInt8 × Bool)} {st_1409 : List (List UInt8 × List (List UInt8))} {st_1410 : List (List UInt8 × List (List UInt8))} {name_1411 : List UInt8} {r : List (List UInt8)} (h : cellarerref20_Needed st_1404 st_1405 st_1406 st_1407 st_1408 st_1409 st_1410 name_1411 = some r) : Con Go.Proofs.Tryd.prog 16 [AV.agg [AV.list (Ty.prod Ty.str (Ty.prod Ty.str (Ty.prod (Ty.int IntKind.i64) (Ty.prod (Ty.list (Ty.list (Ty.prod Ty.str (Ty.prod Ty.str Ty.str)))) (Ty.prod (Ty.list (Ty.prod Ty.str (Ty.prod Ty.str Ty.str))) (Ty.prod (Ty.list Ty.str) (Ty.prod (Ty.list (Ty.prod Ty.str Ty.str)) (Ty.prod (Ty.list Ty.str) (Ty.list Ty.str))))))))) st_1404 Bool.false, AV.list (Ty.prod Ty.str (Ty.prod Ty.str Ty.str)) st_1405 Bool.false, AV.list (Ty.prod Ty.str (Ty.prod (Ty.int IntKind.i64) (Ty.prod (Ty.int IntKind.i64) (Ty.int IntKind.i64)))) st_1406 Bool.false, AV.list (Ty.prod Ty.str (Ty.prod Ty.str (Ty.prod Ty.bool (Ty.prod Ty.str (Ty.prod (Ty.list (Ty.prod Ty.str Ty.str)) (Ty.list (Ty.prod Ty.str (Ty.prod (Ty.int IntKind.i64) (Ty.list Ty.str))))))))) st_1407 Bool.false, AV.list (Ty.prod Ty.str (Ty.prod Ty.str Ty.bool)) st_1408 Bool.false, AV.list (Ty.prod Ty.str (Ty.list Ty.str)) st_1409 Bool.false, AV.list (Ty.prod Ty.str (Ty.list Ty.str)) st_1410 Bool.false], AV.str name_1411] [] (cellarerref20_Needed_res r) (cellarerref20_Needed_out r) := by
  refine W.con (by kernel_rfl) ?_
  unfold cellarerref20_Needed at h
  refine W.bind h fun a_1412 ha_1412 h => ?_
  refine W.call 0 100000 (by kernel_rfl) (cellarerref08_Drop_con ha_1412) (by kernel_rfl) ?_
  refine W.at 0 100000 [Co.own 5 (Ty.str)] [2, 5, 6, 7] (c' := (fun (s_1442 : Int × List (List UInt8)) => (Cfg.mk Mode.run (headTodo Go.Proofs.Tryd.prog 16 0) (St.mk [jj, jj, AV.ptr (0 : Nat) (0 : Nat), jj, jj, AV.view (1 : Nat) (0 : Nat) Option.none, AV.ptr (2 : Nat) (0 : Nat), AV.int IntKind.i64 (Prod.fst s_1442), jj, jj, jj, jj, jj, jj, jj, jj, jj, jj, jj, jj, jj, jj, jj, jj, jj, jj, jj, jj, jj, jj, jj, jj, jj, jj, jj, jj, jj, jj, jj, jj, jj, jj, jj, jj, jj, jj, jj, jj, jj, jj, jj, jj, jj] [AO.box [AV.list (Ty.prod Ty.str (Ty.prod Ty.str (Ty.prod (Ty.int IntKind.i64) (Ty.prod (Ty.list (Ty.list (Ty.prod Ty.str (Ty.prod Ty.str Ty.str)))) (Ty.prod (Ty.list (Ty.prod Ty.str (Ty.prod Ty.str Ty.str))) (Ty.prod (Ty.list Ty.str) (Ty.prod (Ty.list (Ty.prod Ty.str Ty.str)) (Ty.prod (Ty.list Ty.str) (Ty.list Ty.str))))))))) st_1404 Bool.false, AV.list (Ty.prod Ty.str (Ty.prod Ty.str Ty.str)) st_1405 Bool.false, AV.list (Ty.prod Ty.str (Ty.prod (Ty.int IntKind.i64) (Ty.prod (Ty.int IntKind.i64) (Ty.int IntKind.i64)))) st_1406 Bool.false, AV.list (Ty.prod Ty.str (Ty.prod Ty.str (Ty.prod Ty.bool (Ty.prod Ty.str (Ty.prod (Ty.list (Ty.prod Ty.str Ty.str)) (Ty.list (Ty.prod Ty.str (Ty.prod (Ty.int IntKind.i64) (Ty.list Ty.str))))))))) st_1407 Bool.false, AV.list (Ty.prod Ty.str (Ty.prod Ty.str Ty.bool)) st_1408 Bool.false, AV.list (Ty.prod Ty.str (Ty.list Ty.str)) st_1409 Bool.false, AV.list (Ty.prod Ty.str (Ty.list Ty.str)) st_1410 Bool.false], AO.row Ty.str (Prod.snd s_1442), AO.box [AV.view (3 : Nat) (0 : Nat) Option.none, AV.nils, AV.nils, AV.nils, AV.nils, AV.nils, AV.nils], AO.row (Ty.prod Ty.str (Ty.prod Ty.str (Ty.prod (Ty.int IntKind.i64) (Ty.prod (Ty.list (Ty.list (Ty.prod Ty.str (Ty.prod Ty.str Ty.str)))) (Ty.prod (Ty.list (Ty.prod Ty.str (Ty.prod Ty.str Ty.str))) (Ty.prod (Ty.list Ty.str) (Ty.prod (Ty.list (Ty.prod Ty.str Ty.str)) (Ty.prod (Ty.list Ty.str) (Ty.list Ty.str))))))))) a_1412] (0 : Nat)))) ((0 : Int), [])) (by kernel_rfl) ?_
  refine W.loop (fun (s_1442 : Int × List (List UInt8)) => (Cfg.mk Mode.run (headTodo Go.Proofs.Tryd.prog 16 0) (St.mk [jj, jj, AV.ptr (0 : Nat) (0 : Nat), jj, jj, AV.view (1 : Nat) (0 : Nat) Option.none, AV.ptr (2 : Nat) (0 : Nat), AV.int IntKind.i64 (Prod.fst s_1442), jj, jj, jj, jj, jj, jj, jj, jj, jj, jj, jj, jj, jj, jj, jj, jj, jj, jj, jj, jj, jj, jj, jj, jj, jj, jj, jj, jj, jj, jj, jj, jj, jj, jj, jj, jj, jj, jj, jj, jj, jj, jj, jj, jj, jj] [AO.box [AV.list (Ty.prod Ty.str (Ty.prod Ty.str (Ty.prod (Ty.int IntKind.i64) (Ty.prod (Ty.list (Ty.list (Ty.prod Ty.str (Ty.prod Ty.str Ty.str)))) (Ty.prod (Ty.list (Ty.prod Ty.str (Ty.prod Ty.str Ty.str))) (Ty.prod (Ty.list Ty.str) (Ty.prod (Ty.list (Ty.prod Ty.str Ty.str)) (Ty.prod (Ty.list Ty.str) (Ty.list Ty.str))))))))) st_1404 Bool.false, AV.list (Ty.prod Ty.str (Ty.prod Ty.str Ty.str)) st_1405 Bool.false, AV.list (Ty.prod Ty.str (Ty.prod (Ty.int IntKind.i64) (Ty.prod (Ty.int IntKind.i64) (Ty.int IntKind.i64)))) st_1406 Bool.false, AV.list (Ty.prod Ty.str (Ty.prod Ty.str (Ty.prod Ty.bool (Ty.prod Ty.str (Ty.prod (Ty.list (Ty.prod Ty.str Ty.str)) (Ty.list (Ty.prod Ty.str (Ty.prod (Ty.int IntKind.i64) (Ty.list Ty.str))))))))) st_1407 Bool.false, AV.list (Ty.prod Ty.str (Ty.prod Ty.str Ty.bool)) st_1408 Bool.false, AV.list (Ty.prod Ty.str (Ty.list Ty.str)) st_1409 Bool.false, AV.list (Ty.prod Ty.str (Ty.list Ty.str)) st_1410 Bool.false], AO.row Ty.str (Prod.snd s_1442), AO.box [AV.view (3 : Nat) (0 : Nat) Option.none, AV.nils, AV.nils, AV.nils, AV.nils, AV.nils, AV.nils], AO.row (Ty.prod Ty.str (Ty.prod Ty.str (Ty.prod (Ty.int IntKind.i64) (Ty.prod (Ty.list (Ty.list (Ty.prod Ty.str (Ty.prod Ty.str Ty.str)))) (Ty.prod (Ty.list (Ty.prod Ty.str (Ty.prod Ty.str Ty.str))) (Ty.prod (Ty.list Ty.str) (Ty.prod (Ty.list (Ty.prod Ty.str Ty.str)) (Ty.prod (Ty.list Ty.str) (Ty.list Ty.str))))))))) a_1412] (0 : Nat)))) (fun t_1437 => Walk Go.Proofs.Tryd.prog 16 (Cfg.mk Mode.run ((headTodo Go.Proofs.Tryd.prog 16 0).drop 3) (St.mk [jj, jj, jj, jj, jj, AV.view (0 : Nat) (0 : Nat) Option.none, jj, jj, jj, jj, jj, jj, jj, jj, jj, jj, jj, jj, jj, jj, jj, jj, jj, jj, jj, jj, jj, jj, jj, jj, jj, jj, jj, jj, jj, jj, jj, jj, jj, jj, jj, jj, jj, jj, jj, jj, jj, jj, jj, jj, jj, jj, jj] [AO.row Ty.str t_1437] (0 : Nat))) (cellarerref20_Needed_res r) (cellarerref20_Needed_out r)) h (fun t_1437 h => ?_) (fun s_1442 x1439 h1439 K1439 => ?_)
  ·
    exact W.retT 0 100000 h (by kernel_rfl)
  · unfold cellarerref20_Needed_b0 at h1439
    refine W.cond 2 100000 h1439 (by kernel_rfl) (fun h1439 => ?_) (fun h1439 => ?_)
    ·
      refine W.needT 2 100000 h1439 (by kernel_rfl) (fun h1439 => ?_)
      refine W.needT 2 100000 h1439 (by kernel_rfl) (fun h1439 => ?_)
      refine W.cond 2 100000 h1439 (by kernel_rfl) (fun h1439 => ?_) (fun h1439 => ?_)
      ·
        refine W.yes 2 100000 (by kernel_rfl) ?_
        refine W.yes 2 100000 (by kernel_rfl) ?_
        refine W.yes 2 100000 (by kernel_rfl) ?_
        refine W.cond 2 100000 h1439 (by kernel_rfl) (fun h1439 => ?_) (fun h1439 => ?_)
        ·
          refine W.yes 2 100000 (by kernel_rfl) ?_
          refine W.yes 2 100000 (by kernel_rfl) ?_
          refine W.yes 2 100000 (by kernel_rfl) ?_
          refine W.bind h1439 fun a_1434 ha_1434 h1439 => ?_
          refine W.call 2 100000 (by kernel_rfl) (cellarerref20_Missing_con ha_1434) (by kernel_rfl) ?_
          refine W.yes 2 100000 (by kernel_rfl) ?_
          refine W.yes 2 100000 (by kernel_rfl) ?_
          refine W.yes 2 100000 (by kernel_rfl) ?_
          refine W.yes 2 100000 (by kernel_rfl) ?_
          refine W.yes 2 100000 (by kernel_rfl) ?_
          refine W.bind h1439 fun a_1435 ha_1435 h1439 => ?_
          refine W.call 2 100000 (by kernel_rfl) (cellarerref20_Missing_con ha_1435) (by kernel_rfl) ?_
          refine W.yes 2 100000 (by kernel_rfl) ?_
          refine W.yes 2 100000 (by kernel_rfl) ?_
          refine W.yes 2 100000 (by kernel_rfl) ?_
          refine W.cond 2 100000 h1439 (by kernel_rfl) (fun h1439 => ?_) (fun h1439 => ?_)
          ·
            refine W.needT 2 100000 h1439 (by kernel_rfl) (fun h1439 => ?_)
            cases h1439; exact W.at 2 100000 [Co.own 5 (Ty.str)] [2, 5, 6, 7] (by kernel_rfl) K1439
          ·
            cases h1439; exact W.at 2 100000 [Co.own 5 (Ty.str)] [2, 5, 6, 7] (by kernel_rfl) K1439
        ·
          refine W.no 2 100000 (by kernel_rfl) ?_
          refine W.no 2 100000 (by kernel_rfl) ?_
          refine W.no 2 100000 (by kernel_rfl) ?_
          refine W.no 2 100000 (by kernel_rfl) ?_
          refine W.no 2 100000 (by kernel_rfl) ?_
          refine W.no 2 100000 (by kernel_rfl) ?_
          refine W.no 2 100000 (by kernel_rfl) ?_
          refine W.no 2 100000 (by kernel_rfl) ?_
          refine W.no 2 100000 (by kernel_rfl) ?_
          refine W.no 2 100000 (by kernel_rfl) ?_
          refine W.no 2 100000 (by kernel_rfl) ?_
          refine W.no 2 100000 (by kernel_rfl) ?_
          cases h1439; exact W.at 2 100000 [Co.own 5 (Ty.str)] [2, 5, 6, 7] (by kernel_rfl) K1439
      ·
        refine W.no 2 100000 (by kernel_rfl) ?_
        refine W.no 2 100000 (by kernel_rfl) ?_
        refine W.no 2 100000 (by kernel_rfl) ?_
        refine W.no 2 100000 (by kernel_rfl) ?_
        refine W.no 2 100000 (by kernel_rfl) ?_
        refine W.no 2 100000 (by kernel_rfl) ?_
        refine W.no 2 100000 (by kernel_rfl) ?_
        refine W.no 2 100000 (by kernel_rfl) ?_
        refine W.no 2 100000 (by kernel_rfl) ?_
        refine W.no 2 100000 (by kernel_rfl) ?_
        refine W.no 2 100000 (by kernel_rfl) ?_
        refine W.no 2 100000 (by kernel_rfl) ?_
        refine W.no 2 100000 (by kernel_rfl) ?_
        refine W.no 2 100000 (by kernel_rfl) ?_
        refine W.no 2 100000 (by kernel_rfl) ?_
        refine W.no 2 100000 (by kernel_rfl) ?_
        cases h1439; exact W.at 2 100000 [Co.own 5 (Ty.str)] [2, 5, 6, 7] (by kernel_rfl) K1439
    ·
      cases h1439; exact W.at 2 100000 [] [5] (by kernel_rfl) K1439

theorem cellarerlaw20_awake_con  {r : Bool} (h : cellarerlaw20_awake  = some r) : Con Go.Proofs.Tryd.prog 7 [] [] (cellarerlaw20_awake_res r) (cellarerlaw20_awake_out r) := by
  refine W.con (by kernel_rfl) ?_
  unfold cellarerlaw20_awake at h
  refine W.bind h fun a_1443 ha_1443 h => ?_
  refine W.call 0 100000 (by kernel_rfl) (check_Needed_con ha_1443) (by kernel_rfl) ?_
  refine W.bind h fun a_1444 ha_1444 h => ?_
  refine W.call 0 100000 (by kernel_rfl) (cellarerref02_Same_con ha_1444) (by kernel_rfl) ?_
  refine W.cond 0 100000 h (by kernel_rfl) (fun h => ?_) (fun h => ?_)
  ·
    refine W.yes 0 100000 (by kernel_rfl) ?_
    refine W.yes 0 100000 (by kernel_rfl) ?_
    refine W.bind h fun a_1445 ha_1445 h => ?_
    refine W.call 0 100000 (by kernel_rfl) (check_There_con ha_1445) (by kernel_rfl) ?_
    refine W.yes 0 100000 (by kernel_rfl) ?_
    refine W.yes 0 100000 (by kernel_rfl) ?_
    refine W.yes 0 100000 (by kernel_rfl) ?_
    exact W.retT 0 100000 h (by kernel_rfl)
  ·
    refine W.no 0 100000 (by kernel_rfl) ?_
    refine W.no 0 100000 (by kernel_rfl) ?_
    refine W.no 0 100000 (by kernel_rfl) ?_
    refine W.no 0 100000 (by kernel_rfl) ?_
    refine W.no 0 100000 (by kernel_rfl) ?_
    exact W.retT 0 100000 h (by kernel_rfl)

theorem cellarerlaw20_CheckNeeds_con {st_1451 : List (List UInt8 × List UInt8 × Int × List (List (List UInt8 × List UInt8 × List UInt8)) × List (List UInt8 × List UInt8 × List UInt8) × List (List UInt8) × List (List UInt8 × List UInt8) × List (List UInt8) × List (List UInt8))} {st_1452 : List (List UInt8 × List UInt8 × List UInt8)} {st_1453 : List (List UInt8 × Int × Int × Int)} {st_1454 : List (List UInt8 × List UInt8 × Bool × List UInt8 × List (List UInt8 × List UInt8) × List (List UInt8 × Int × List (List UInt8)))} {st_1455 : List (List UInt8 × List UInt8 × Bool)} {st_1456 : List (List UInt8 × List (List UInt8))} {st_1457 : List (List UInt8 × List (List UInt8))} {x_1458 : List UInt8} {x_1459 : List UInt8} {x_1460 : List (List (List UInt8 × List UInt8 × List UInt8))} {x_1461 : List (List UInt8 × List UInt8 × List UInt8)} {x_1462 : List (List UInt8)} {x_1463 : List (List UInt8 × Int × (Int × Int × Int) × List UInt8 × Bool)} {x_1464 : List (List UInt8 × List UInt8 × Bool)} {x_1465 : List (Int × List UInt8 × List UInt8 × List UInt8 × (Int × Int × Int) × Int × Bool × Bool × List (List UInt8 × List UInt8) × List (List UInt8))} {x_1466 : List (Int × List UInt8 × List UInt8 × List UInt8 × (Int × Int × Int) × Int × Bool × Bool × List (List UInt8 × List UInt8) × List (List UInt8))} {x_1467 : List (Int × List UInt8 × List UInt8 × List UInt8 × (Int × Int × Int) × Int × Bool × Bool × List (List UInt8 × List UInt8) × List (List UInt8))} {x_1468 : List (Int × List UInt8 × List UInt8 × List UInt8 × (Int × Int × Int) × Int × Bool × Bool × List (List UInt8 × List UInt8) × List (List UInt8))} {name_1469 : List UInt8} {r : Bool} (h : cellarerlaw20_CheckNeeds st_1451 st_1452 st_1453 st_1454 st_1455 st_1456 st_1457 x_1458 x_1459 x_1460 x_1461 x_1462 x_1463 x_1464 x_1465 x_1466 x_1467 x_1468 name_1469 = some r) : Con Go.Proofs.Tryd.prog 3 [AV.agg [AV.list (Ty.prod Ty.str (Ty.prod Ty.str (Ty.prod (Ty.int IntKind.i64) (Ty.prod (Ty.list (Ty.list (Ty.prod Ty.str (Ty.prod Ty.str Ty.str)))) (Ty.prod (Ty.list (Ty.prod Ty.str (Ty.prod Ty.str Ty.str))) (Ty.prod (Ty.list Ty.str) (Ty.prod (Ty.list (Ty.prod Ty.str Ty.str)) (Ty.prod (Ty.list Ty.str) (Ty.list Ty.str))))))))) st_1451 Bool.false, AV.list (Ty.prod Ty.str (Ty.prod Ty.str Ty.str)) st_1452 Bool.false, AV.list (Ty.prod Ty.str (Ty.prod (Ty.int IntKind.i64) (Ty.prod (Ty.int IntKind.i64) (Ty.int IntKind.i64)))) st_1453 Bool.false, AV.list (Ty.prod Ty.str (Ty.prod Ty.str (Ty.prod Ty.bool (Ty.prod Ty.str (Ty.prod (Ty.list (Ty.prod Ty.str Ty.str)) (Ty.list (Ty.prod Ty.str (Ty.prod (Ty.int IntKind.i64) (Ty.list Ty.str))))))))) st_1454 Bool.false, AV.list (Ty.prod Ty.str (Ty.prod Ty.str Ty.bool)) st_1455 Bool.false, AV.list (Ty.prod Ty.str (Ty.list Ty.str)) st_1456 Bool.false, AV.list (Ty.prod Ty.str (Ty.list Ty.str)) st_1457 Bool.false], AV.agg [AV.str x_1458, AV.str x_1459, AV.list (Ty.list (Ty.prod Ty.str (Ty.prod Ty.str Ty.str))) x_1460 Bool.false, AV.list (Ty.prod Ty.str (Ty.prod Ty.str Ty.str)) x_1461 Bool.false, AV.list Ty.str x_1462 Bool.false, AV.list (Ty.prod Ty.str (Ty.prod (Ty.int IntKind.i64) (Ty.prod (Ty.prod (Ty.int IntKind.i64) (Ty.prod (Ty.int IntKind.i64) (Ty.int IntKind.i64))) (Ty.prod Ty.str Ty.bool)))) x_1463 Bool.false, AV.list (Ty.prod Ty.str (Ty.prod Ty.str Ty.bool)) x_1464 Bool.false, AV.list (Ty.prod (Ty.int IntKind.i64) (Ty.prod Ty.str (Ty.prod Ty.str (Ty.prod Ty.str (Ty.prod (Ty.prod (Ty.int IntKind.i64) (Ty.prod (Ty.int IntKind.i64) (Ty.int IntKind.i64))) (Ty.prod (Ty.int IntKind.i64) (Ty.prod Ty.bool (Ty.prod Ty.bool (Ty.prod (Ty.list (Ty.prod Ty.str Ty.str)) (Ty.list Ty.str)))))))))) x_1465 Bool.false, AV.list (Ty.prod (Ty.int IntKind.i64) (Ty.prod Ty.str (Ty.prod Ty.str (Ty.prod Ty.str (Ty.prod (Ty.prod (Ty.int IntKind.i64) (Ty.prod (Ty.int IntKind.i64) (Ty.int IntKind.i64))) (Ty.prod (Ty.int IntKind.i64) (Ty.prod Ty.bool (Ty.prod Ty.bool (Ty.prod (Ty.list (Ty.prod Ty.str Ty.str)) (Ty.list Ty.str)))))))))) x_1466 Bool.false, AV.list (Ty.prod (Ty.int IntKind.i64) (Ty.prod Ty.str (Ty.prod Ty.str (Ty.prod Ty.str (Ty.prod (Ty.prod (Ty.int IntKind.i64) (Ty.prod (Ty.int IntKind.i64) (Ty.int IntKind.i64))) (Ty.prod (Ty.int IntKind.i64) (Ty.prod Ty.bool (Ty.prod Ty.bool (Ty.prod (Ty.list (Ty.prod Ty.str Ty.str)) (Ty.list Ty.str)))))))))) x_1467 Bool.false, AV.list (Ty.prod (Ty.int IntKind.i64) (Ty.prod Ty.str (Ty.prod Ty.str (Ty.prod Ty.str (Ty.prod (Ty.prod (Ty.int IntKind.i64) (Ty.prod (Ty.int IntKind.i64) (Ty.int IntKind.i64))) (Ty.prod (Ty.int IntKind.i64) (Ty.prod Ty.bool (Ty.prod Ty.bool (Ty.prod (Ty.list (Ty.prod Ty.str Ty.str)) (Ty.list Ty.str)))))))))) x_1468 Bool.false], AV.str name_1469] [] (cellarerlaw20_CheckNeeds_res r) (cellarerlaw20_CheckNeeds_out r) := by
  refine W.con (by kernel_rfl) ?_
  unfold cellarerlaw20_CheckNeeds at h
  refine W.join (fun t => (Sum.elim (fun t_1476 => r = (t_1476)) (fun t_1477 => Walk Go.Proofs.Tryd.prog 3 (Cfg.mk Mode.run (seqTodo Go.Proofs.Tryd.prog 3 1) (St.mk [jj, jj, AV.str name_1469, AV.ptr (0 : Nat) (0 : Nat), AV.ptr (1 : Nat) (0 : Nat), jj, jj, jj, jj, jj, jj, jj, jj, jj, jj, jj, jj, jj, jj, jj, jj, jj, jj, jj, jj, jj, jj, jj, jj, jj, jj, jj, jj, jj, jj, jj, jj, jj, jj, jj, jj, jj, jj, jj, jj, jj, jj, jj, jj, jj, jj] [AO.box [AV.list (Ty.prod Ty.str (Ty.prod Ty.str (Ty.prod (Ty.int IntKind.i64) (Ty.prod (Ty.list (Ty.list (Ty.prod Ty.str (Ty.prod Ty.str Ty.str)))) (Ty.prod (Ty.list (Ty.prod Ty.str (Ty.prod Ty.str Ty.str))) (Ty.prod (Ty.list Ty.str) (Ty.prod (Ty.list (Ty.prod Ty.str Ty.str)) (Ty.prod (Ty.list Ty.str) (Ty.list Ty.str))))))))) st_1451 Bool.false, AV.list (Ty.prod Ty.str (Ty.prod Ty.str Ty.str)) st_1452 Bool.false, AV.list (Ty.prod Ty.str (Ty.prod (Ty.int IntKind.i64) (Ty.prod (Ty.int IntKind.i64) (Ty.int IntKind.i64)))) st_1453 Bool.false, AV.list (Ty.prod Ty.str (Ty.prod Ty.str (Ty.prod Ty.bool (Ty.prod Ty.str (Ty.prod (Ty.list (Ty.prod Ty.str Ty.str)) (Ty.list (Ty.prod Ty.str (Ty.prod (Ty.int IntKind.i64) (Ty.list Ty.str))))))))) st_1454 Bool.false, AV.list (Ty.prod Ty.str (Ty.prod Ty.str Ty.bool)) st_1455 Bool.false, AV.list (Ty.prod Ty.str (Ty.list Ty.str)) st_1456 Bool.false, AV.list (Ty.prod Ty.str (Ty.list Ty.str)) st_1457 Bool.false], AO.box [AV.str x_1458, AV.str x_1459, AV.list (Ty.list (Ty.prod Ty.str (Ty.prod Ty.str Ty.str))) x_1460 Bool.false, AV.list (Ty.prod Ty.str (Ty.prod Ty.str Ty.str)) x_1461 Bool.false, AV.list Ty.str x_1462 Bool.false, AV.list (Ty.prod Ty.str (Ty.prod (Ty.int IntKind.i64) (Ty.prod (Ty.prod (Ty.int IntKind.i64) (Ty.prod (Ty.int IntKind.i64) (Ty.int IntKind.i64))) (Ty.prod Ty.str Ty.bool)))) x_1463 Bool.false, AV.list (Ty.prod Ty.str (Ty.prod Ty.str Ty.bool)) x_1464 Bool.false, AV.list (Ty.prod (Ty.int IntKind.i64) (Ty.prod Ty.str (Ty.prod Ty.str (Ty.prod Ty.str (Ty.prod (Ty.prod (Ty.int IntKind.i64) (Ty.prod (Ty.int IntKind.i64) (Ty.int IntKind.i64))) (Ty.prod (Ty.int IntKind.i64) (Ty.prod Ty.bool (Ty.prod Ty.bool (Ty.prod (Ty.list (Ty.prod Ty.str Ty.str)) (Ty.list Ty.str)))))))))) x_1465 Bool.false, AV.list (Ty.prod (Ty.int IntKind.i64) (Ty.prod Ty.str (Ty.prod Ty.str (Ty.prod Ty.str (Ty.prod (Ty.prod (Ty.int IntKind.i64) (Ty.prod (Ty.int IntKind.i64) (Ty.int IntKind.i64))) (Ty.prod (Ty.int IntKind.i64) (Ty.prod Ty.bool (Ty.prod Ty.bool (Ty.prod (Ty.list (Ty.prod Ty.str Ty.str)) (Ty.list Ty.str)))))))))) x_1466 Bool.false, AV.list (Ty.prod (Ty.int IntKind.i64) (Ty.prod Ty.str (Ty.prod Ty.str (Ty.prod Ty.str (Ty.prod (Ty.prod (Ty.int IntKind.i64) (Ty.prod (Ty.int IntKind.i64) (Ty.int IntKind.i64))) (Ty.prod (Ty.int IntKind.i64) (Ty.prod Ty.bool (Ty.prod Ty.bool (Ty.prod (Ty.list (Ty.prod Ty.str Ty.str)) (Ty.list Ty.str)))))))))) x_1467 Bool.false, AV.list (Ty.prod (Ty.int IntKind.i64) (Ty.prod Ty.str (Ty.prod Ty.str (Ty.prod Ty.str (Ty.prod (Ty.prod (Ty.int IntKind.i64) (Ty.prod (Ty.int IntKind.i64) (Ty.int IntKind.i64))) (Ty.prod (Ty.int IntKind.i64) (Ty.prod Ty.bool (Ty.prod Ty.bool (Ty.prod (Ty.list (Ty.prod Ty.str Ty.str)) (Ty.list Ty.str)))))))))) x_1468 Bool.false]] (0 : Nat))) (cellarerlaw20_CheckNeeds_res r) (cellarerlaw20_CheckNeeds_out r))) t) h (fun t h => ?_) (fun t1489 h1489 K1489 => ?_)
  ·
    rcases t with t_1476 | t_1477
    · replace h := W.inl (h)
      refine W.elimL (?_)
      exact (Option.some.inj h).symm
    · replace h := W.inr (h)
      refine W.elimR (?_)
      refine W.bind h fun a_1478 ha_1478 h => ?_
      refine W.call 0 100000 (by kernel_rfl) (check_There_con ha_1478) (by kernel_rfl) ?_
      refine W.bind h fun a_1479 ha_1479 h => ?_
      refine W.call 0 100000 (by kernel_rfl) (cellarerref20_There_con ha_1479) (by kernel_rfl) ?_
      refine W.bind h fun a_1480 ha_1480 h => ?_
      refine W.call 0 100000 (by kernel_rfl) (cellarerref07_SameList_con ha_1480) (by kernel_rfl) ?_
      refine W.cond 0 100000 h (by kernel_rfl) (fun h => ?_) (fun h => ?_)
      ·
        refine W.yes 0 100000 (by kernel_rfl) ?_
        refine W.yes 0 100000 (by kernel_rfl) ?_
        refine W.yes 0 100000 (by kernel_rfl) ?_
        refine W.bind h fun a_1481 ha_1481 h => ?_
        refine W.call 0 100000 (by kernel_rfl) (check_Missing_con ha_1481) (by kernel_rfl) ?_
        refine W.yes 0 100000 (by kernel_rfl) ?_
        refine W.yes 0 100000 (by kernel_rfl) ?_
        refine W.yes 0 100000 (by kernel_rfl) ?_
        refine W.yes 0 100000 (by kernel_rfl) ?_
        refine W.bind h fun a_1482 ha_1482 h => ?_
        refine W.call 0 100000 (by kernel_rfl) (cellarerref20_Missing_con ha_1482) (by kernel_rfl) ?_
        refine W.yes 0 100000 (by kernel_rfl) ?_
        refine W.bind h fun a_1483 ha_1483 h => ?_
        refine W.call 0 100000 (by kernel_rfl) (cellarerlaw20_ints_con ha_1483) (by kernel_rfl) ?_
        refine W.yes 0 100000 (by kernel_rfl) ?_
        refine W.cond 0 100000 h (by kernel_rfl) (fun h => ?_) (fun h => ?_)
        ·
          refine W.yes 0 100000 (by kernel_rfl) ?_
          refine W.yes 0 100000 (by kernel_rfl) ?_
          refine W.bind h fun a_1484 ha_1484 h => ?_
          refine W.call 0 100000 (by kernel_rfl) (check_Needed_con ha_1484) (by kernel_rfl) ?_
          refine W.yes 0 100000 (by kernel_rfl) ?_
          refine W.yes 0 100000 (by kernel_rfl) ?_
          refine W.yes 0 100000 (by kernel_rfl) ?_
          refine W.bind h fun a_1485 ha_1485 h => ?_
          refine W.call 0 100000 (by kernel_rfl) (cellarerref20_Needed_con ha_1485) (by kernel_rfl) ?_
          refine W.yes 0 100000 (by kernel_rfl) ?_
          refine W.bind h fun a_1486 ha_1486 h => ?_
          refine W.call 0 100000 (by kernel_rfl) (cellarerref02_Same_con ha_1486) (by kernel_rfl) ?_
          refine W.yes 0 100000 (by kernel_rfl) ?_
          refine W.cond 0 100000 h (by kernel_rfl) (fun h => ?_) (fun h => ?_)
          ·
            refine W.bind h fun a_1487 ha_1487 h => ?_
            refine W.call 0 100000 (by kernel_rfl) (cellarerlaw20_awake_con ha_1487) (by kernel_rfl) ?_
            refine W.yes 0 100000 (by kernel_rfl) ?_
            exact W.retT 0 100000 h (by kernel_rfl)
          ·
            refine W.no 0 100000 (by kernel_rfl) ?_
            exact W.retT 0 100000 h (by kernel_rfl)
        ·
          refine W.no 0 100000 (by kernel_rfl) ?_
          refine W.no 0 100000 (by kernel_rfl) ?_
          refine W.no 0 100000 (by kernel_rfl) ?_
          refine W.no 0 100000 (by kernel_rfl) ?_
          refine W.no 0 100000 (by kernel_rfl) ?_
          refine W.no 0 100000 (by kernel_rfl) ?_
          refine W.no 0 100000 (by kernel_rfl) ?_
          refine W.no 0 100000 (by kernel_rfl) ?_
          refine W.no 0 100000 (by kernel_rfl) ?_
          exact W.retT 0 100000 h (by kernel_rfl)
      ·
        refine W.no 0 100000 (by kernel_rfl) ?_
        refine W.no 0 100000 (by kernel_rfl) ?_
        refine W.no 0 100000 (by kernel_rfl) ?_
        refine W.no 0 100000 (by kernel_rfl) ?_
        refine W.no 0 100000 (by kernel_rfl) ?_
        refine W.no 0 100000 (by kernel_rfl) ?_
        refine W.no 0 100000 (by kernel_rfl) ?_
        refine W.no 0 100000 (by kernel_rfl) ?_
        refine W.no 0 100000 (by kernel_rfl) ?_
        refine W.no 0 100000 (by kernel_rfl) ?_
        refine W.no 0 100000 (by kernel_rfl) ?_
        refine W.no 0 100000 (by kernel_rfl) ?_
        refine W.no 0 100000 (by kernel_rfl) ?_
        refine W.no 0 100000 (by kernel_rfl) ?_
        refine W.no 0 100000 (by kernel_rfl) ?_
        refine W.no 0 100000 (by kernel_rfl) ?_
        refine W.no 0 100000 (by kernel_rfl) ?_
        refine W.no 0 100000 (by kernel_rfl) ?_
        refine W.no 0 100000 (by kernel_rfl) ?_
        exact W.retT 0 100000 h (by kernel_rfl)
  · refine W.next 0 7 (by kernel_rfl) ?_
    refine W.bind h1489 fun a_1470 ha_1470 h1489 => ?_
    refine W.call 1 100000 (by kernel_rfl) (cellarerlaw20_few_con ha_1470) (by kernel_rfl) ?_
    refine W.cond 1 100000 h1489 (by kernel_rfl) (fun h1489 => ?_) (fun h1489 => ?_)
    ·
      refine W.yes 1 100000 (by kernel_rfl) ?_
      refine W.yes 1 100000 (by kernel_rfl) ?_
      refine W.yes 1 100000 (by kernel_rfl) ?_
      refine W.yes 1 100000 (by kernel_rfl) ?_
      refine W.yes 1 100000 (by kernel_rfl) ?_
      refine W.yes 1 100000 (by kernel_rfl) ?_
      refine W.yes 1 100000 (by kernel_rfl) ?_
      refine W.yes 1 100000 (by kernel_rfl) ?_
      refine W.bind h1489 fun a_1471 ha_1471 h1489 => ?_
      refine W.call 1 100000 (by kernel_rfl) (cellarerlaw20_awake_con ha_1471) (by kernel_rfl) ?_
      cases h1489; exact W.retK 1 100000 K1489 (by kernel_rfl)
    ·
      refine W.no 1 100000 (by kernel_rfl) ?_
      refine W.bind h1489 fun a_1472 ha_1472 h1489 => ?_
      refine W.call 1 100000 (by kernel_rfl) (cellarerlaw19_Few_con ha_1472) (by kernel_rfl) ?_
      refine W.no 1 100000 (by kernel_rfl) ?_
      refine W.no 1 100000 (by kernel_rfl) ?_
      refine W.cond 1 100000 h1489 (by kernel_rfl) (fun h1489 => ?_) (fun h1489 => ?_)
      ·
        refine W.yes 1 100000 (by kernel_rfl) ?_
        refine W.yes 1 100000 (by kernel_rfl) ?_
        refine W.yes 1 100000 (by kernel_rfl) ?_
        refine W.yes 1 100000 (by kernel_rfl) ?_
        refine W.bind h1489 fun a_1473 ha_1473 h1489 => ?_
        refine W.call 1 100000 (by kernel_rfl) (cellarerlaw20_awake_con ha_1473) (by kernel_rfl) ?_
        cases h1489; exact W.retK 1 100000 K1489 (by kernel_rfl)
      ·
        refine W.no 1 100000 (by kernel_rfl) ?_
        refine W.no 1 100000 (by kernel_rfl) ?_
        refine W.no 1 100000 (by kernel_rfl) ?_
        refine W.cond 1 100000 h1489 (by kernel_rfl) (fun h1489 => ?_) (fun h1489 => ?_)
        ·
          refine W.bind h1489 fun a_1474 ha_1474 h1489 => ?_
          refine W.call 1 100000 (by kernel_rfl) (cellarerlaw20_awake_con ha_1474) (by kernel_rfl) ?_
          cases h1489; exact W.retK 1 100000 K1489 (by kernel_rfl)
        ·
          cases h1489; exact W.at 1 100000 [] [2, 3, 4] (by kernel_rfl) K1489

theorem cellarerlaw20_CheckConflicts_con {st_1493 : List (List UInt8 × List UInt8 × Int × List (List (List UInt8 × List UInt8 × List UInt8)) × List (List UInt8 × List UInt8 × List UInt8) × List (List UInt8) × List (List UInt8 × List UInt8) × List (List UInt8) × List (List UInt8))} {st_1494 : List (List UInt8 × List UInt8 × List UInt8)} {st_1495 : List (List UInt8 × Int × Int × Int)} {st_1496 : List (List UInt8 × List UInt8 × Bool × List UInt8 × List (List UInt8 × List UInt8) × List (List UInt8 × Int × List (List UInt8)))} {st_1497 : List (List UInt8 × List UInt8 × Bool)} {st_1498 : List (List UInt8 × List (List UInt8))} {st_1499 : List (List UInt8 × List (List UInt8))} {x_1500 : List UInt8} {x_1501 : List UInt8} {x_1502 : List (List (List UInt8 × List UInt8 × List UInt8))} {x_1503 : List (List UInt8 × List UInt8 × List UInt8)} {x_1504 : List (List UInt8)} {x_1505 : List (List UInt8 × Int × (Int × Int × Int) × List UInt8 × Bool)} {x_1506 : List (List UInt8 × List UInt8 × Bool)} {x_1507 : List (Int × List UInt8 × List UInt8 × List UInt8 × (Int × Int × Int) × Int × Bool × Bool × List (List UInt8 × List UInt8) × List (List UInt8))} {x_1508 : List (Int × List UInt8 × List UInt8 × List UInt8 × (Int × Int × Int) × Int × Bool × Bool × List (List UInt8 × List UInt8) × List (List UInt8))} {x_1509 : List (Int × List UInt8 × List UInt8 × List UInt8 × (Int × Int × Int) × Int × Bool × Bool × List (List UInt8 × List UInt8) × List (List UInt8))} {x_1510 : List (Int × List UInt8 × List UInt8 × List UInt8 × (Int × Int × Int) × Int × Bool × Bool × List (List UInt8 × List UInt8) × List (List UInt8))} {r : Bool} (h : cellarerlaw20_CheckConflicts st_1493 st_1494 st_1495 st_1496 st_1497 st_1498 st_1499 x_1500 x_1501 x_1502 x_1503 x_1504 x_1505 x_1506 x_1507 x_1508 x_1509 x_1510 = some r) : Con Go.Proofs.Tryd.prog 4 [AV.agg [AV.list (Ty.prod Ty.str (Ty.prod Ty.str (Ty.prod (Ty.int IntKind.i64) (Ty.prod (Ty.list (Ty.list (Ty.prod Ty.str (Ty.prod Ty.str Ty.str)))) (Ty.prod (Ty.list (Ty.prod Ty.str (Ty.prod Ty.str Ty.str))) (Ty.prod (Ty.list Ty.str) (Ty.prod (Ty.list (Ty.prod Ty.str Ty.str)) (Ty.prod (Ty.list Ty.str) (Ty.list Ty.str))))))))) st_1493 Bool.false, AV.list (Ty.prod Ty.str (Ty.prod Ty.str Ty.str)) st_1494 Bool.false, AV.list (Ty.prod Ty.str (Ty.prod (Ty.int IntKind.i64) (Ty.prod (Ty.int IntKind.i64) (Ty.int IntKind.i64)))) st_1495 Bool.false, AV.list (Ty.prod Ty.str (Ty.prod Ty.str (Ty.prod Ty.bool (Ty.prod Ty.str (Ty.prod (Ty.list (Ty.prod Ty.str Ty.str)) (Ty.list (Ty.prod Ty.str (Ty.prod (Ty.int IntKind.i64) (Ty.list Ty.str))))))))) st_1496 Bool.false, AV.list (Ty.prod Ty.str (Ty.prod Ty.str Ty.bool)) st_1497 Bool.false, AV.list (Ty.prod Ty.str (Ty.list Ty.str)) st_1498 Bool.false, AV.list (Ty.prod Ty.str (Ty.list Ty.str)) st_1499 Bool.false], AV.agg [AV.str x_1500, AV.str x_1501, AV.list (Ty.list (Ty.prod Ty.str (Ty.prod Ty.str Ty.str))) x_1502 Bool.false, AV.list (Ty.prod Ty.str (Ty.prod Ty.str Ty.str)) x_1503 Bool.false, AV.list Ty.str x_1504 Bool.false, AV.list (Ty.prod Ty.str (Ty.prod (Ty.int IntKind.i64) (Ty.prod (Ty.prod (Ty.int IntKind.i64) (Ty.prod (Ty.int IntKind.i64) (Ty.int IntKind.i64))) (Ty.prod Ty.str Ty.bool)))) x_1505 Bool.false, AV.list (Ty.prod Ty.str (Ty.prod Ty.str Ty.bool)) x_1506 Bool.false, AV.list (Ty.prod (Ty.int IntKind.i64) (Ty.prod Ty.str (Ty.prod Ty.str (Ty.prod Ty.str (Ty.prod (Ty.prod (Ty.int IntKind.i64) (Ty.prod (Ty.int IntKind.i64) (Ty.int IntKind.i64))) (Ty.prod (Ty.int IntKind.i64) (Ty.prod Ty.bool (Ty.prod Ty.bool (Ty.prod (Ty.list (Ty.prod Ty.str Ty.str)) (Ty.list Ty.str)))))))))) x_1507 Bool.false, AV.list (Ty.prod (Ty.int IntKind.i64) (Ty.prod Ty.str (Ty.prod Ty.str (Ty.prod Ty.str (Ty.prod (Ty.prod (Ty.int IntKind.i64) (Ty.prod (Ty.int IntKind.i64) (Ty.int IntKind.i64))) (Ty.prod (Ty.int IntKind.i64) (Ty.prod Ty.bool (Ty.prod Ty.bool (Ty.prod (Ty.list (Ty.prod Ty.str Ty.str)) (Ty.list Ty.str)))))))))) x_1508 Bool.false, AV.list (Ty.prod (Ty.int IntKind.i64) (Ty.prod Ty.str (Ty.prod Ty.str (Ty.prod Ty.str (Ty.prod (Ty.prod (Ty.int IntKind.i64) (Ty.prod (Ty.int IntKind.i64) (Ty.int IntKind.i64))) (Ty.prod (Ty.int IntKind.i64) (Ty.prod Ty.bool (Ty.prod Ty.bool (Ty.prod (Ty.list (Ty.prod Ty.str Ty.str)) (Ty.list Ty.str)))))))))) x_1509 Bool.false, AV.list (Ty.prod (Ty.int IntKind.i64) (Ty.prod Ty.str (Ty.prod Ty.str (Ty.prod Ty.str (Ty.prod (Ty.prod (Ty.int IntKind.i64) (Ty.prod (Ty.int IntKind.i64) (Ty.int IntKind.i64))) (Ty.prod (Ty.int IntKind.i64) (Ty.prod Ty.bool (Ty.prod Ty.bool (Ty.prod (Ty.list (Ty.prod Ty.str Ty.str)) (Ty.list Ty.str)))))))))) x_1510 Bool.false]] [] (cellarerlaw20_CheckConflicts_res r) (cellarerlaw20_CheckConflicts_out r) := by
  refine W.con (by kernel_rfl) ?_
  unfold cellarerlaw20_CheckConflicts at h
  refine W.join (fun t => (Sum.elim (fun t_1516 => r = (t_1516)) (fun t_1517 => Walk Go.Proofs.Tryd.prog 4 (Cfg.mk Mode.run (seqTodo Go.Proofs.Tryd.prog 4 1) (St.mk [jj, jj, AV.ptr (0 : Nat) (0 : Nat), AV.ptr (1 : Nat) (0 : Nat), jj, jj, jj, jj, jj, jj, jj, jj, jj, jj, jj, jj, jj, jj, jj, jj, jj, jj, jj, jj] [AO.box [AV.list (Ty.prod Ty.str (Ty.prod Ty.str (Ty.prod (Ty.int IntKind.i64) (Ty.prod (Ty.list (Ty.list (Ty.prod Ty.str (Ty.prod Ty.str Ty.str)))) (Ty.prod (Ty.list (Ty.prod Ty.str (Ty.prod Ty.str Ty.str))) (Ty.prod (Ty.list Ty.str) (Ty.prod (Ty.list (Ty.prod Ty.str Ty.str)) (Ty.prod (Ty.list Ty.str) (Ty.list Ty.str))))))))) st_1493 Bool.false, AV.list (Ty.prod Ty.str (Ty.prod Ty.str Ty.str)) st_1494 Bool.false, AV.list (Ty.prod Ty.str (Ty.prod (Ty.int IntKind.i64) (Ty.prod (Ty.int IntKind.i64) (Ty.int IntKind.i64)))) st_1495 Bool.false, AV.list (Ty.prod Ty.str (Ty.prod Ty.str (Ty.prod Ty.bool (Ty.prod Ty.str (Ty.prod (Ty.list (Ty.prod Ty.str Ty.str)) (Ty.list (Ty.prod Ty.str (Ty.prod (Ty.int IntKind.i64) (Ty.list Ty.str))))))))) st_1496 Bool.false, AV.list (Ty.prod Ty.str (Ty.prod Ty.str Ty.bool)) st_1497 Bool.false, AV.list (Ty.prod Ty.str (Ty.list Ty.str)) st_1498 Bool.false, AV.list (Ty.prod Ty.str (Ty.list Ty.str)) st_1499 Bool.false], AO.box [AV.str x_1500, AV.str x_1501, AV.list (Ty.list (Ty.prod Ty.str (Ty.prod Ty.str Ty.str))) x_1502 Bool.false, AV.list (Ty.prod Ty.str (Ty.prod Ty.str Ty.str)) x_1503 Bool.false, AV.list Ty.str x_1504 Bool.false, AV.list (Ty.prod Ty.str (Ty.prod (Ty.int IntKind.i64) (Ty.prod (Ty.prod (Ty.int IntKind.i64) (Ty.prod (Ty.int IntKind.i64) (Ty.int IntKind.i64))) (Ty.prod Ty.str Ty.bool)))) x_1505 Bool.false, AV.list (Ty.prod Ty.str (Ty.prod Ty.str Ty.bool)) x_1506 Bool.false, AV.list (Ty.prod (Ty.int IntKind.i64) (Ty.prod Ty.str (Ty.prod Ty.str (Ty.prod Ty.str (Ty.prod (Ty.prod (Ty.int IntKind.i64) (Ty.prod (Ty.int IntKind.i64) (Ty.int IntKind.i64))) (Ty.prod (Ty.int IntKind.i64) (Ty.prod Ty.bool (Ty.prod Ty.bool (Ty.prod (Ty.list (Ty.prod Ty.str Ty.str)) (Ty.list Ty.str)))))))))) x_1507 Bool.false, AV.list (Ty.prod (Ty.int IntKind.i64) (Ty.prod Ty.str (Ty.prod Ty.str (Ty.prod Ty.str (Ty.prod (Ty.prod (Ty.int IntKind.i64) (Ty.prod (Ty.int IntKind.i64) (Ty.int IntKind.i64))) (Ty.prod (Ty.int IntKind.i64) (Ty.prod Ty.bool (Ty.prod Ty.bool (Ty.prod (Ty.list (Ty.prod Ty.str Ty.str)) (Ty.list Ty.str)))))))))) x_1508 Bool.false, AV.list (Ty.prod (Ty.int IntKind.i64) (Ty.prod Ty.str (Ty.prod Ty.str (Ty.prod Ty.str (Ty.prod (Ty.prod (Ty.int IntKind.i64) (Ty.prod (Ty.int IntKind.i64) (Ty.int IntKind.i64))) (Ty.prod (Ty.int IntKind.i64) (Ty.prod Ty.bool (Ty.prod Ty.bool (Ty.prod (Ty.list (Ty.prod Ty.str Ty.str)) (Ty.list Ty.str)))))))))) x_1509 Bool.false, AV.list (Ty.prod (Ty.int IntKind.i64) (Ty.prod Ty.str (Ty.prod Ty.str (Ty.prod Ty.str (Ty.prod (Ty.prod (Ty.int IntKind.i64) (Ty.prod (Ty.int IntKind.i64) (Ty.int IntKind.i64))) (Ty.prod (Ty.int IntKind.i64) (Ty.prod Ty.bool (Ty.prod Ty.bool (Ty.prod (Ty.list (Ty.prod Ty.str Ty.str)) (Ty.list Ty.str)))))))))) x_1510 Bool.false]] (0 : Nat))) (cellarerlaw20_CheckConflicts_res r) (cellarerlaw20_CheckConflicts_out r))) t) h (fun t h => ?_) (fun t1523 h1523 K1523 => ?_)
  ·
    rcases t with t_1516 | t_1517
    · replace h := W.inl (h)
      refine W.elimL (?_)
      exact (Option.some.inj h).symm
    · replace h := W.inr (h)
      refine W.elimR (?_)
      refine W.bind h fun a_1518 ha_1518 h => ?_
      refine W.call 0 100000 (by kernel_rfl) (check_Conflicts_con ha_1518) (by kernel_rfl) ?_
      refine W.bind h fun a_1519 ha_1519 h => ?_
      refine W.call 0 100000 (by kernel_rfl) (cellarerref20_Conflicts_con ha_1519) (by kernel_rfl) ?_
      refine W.bind h fun a_1520 ha_1520 h => ?_
      refine W.call 0 100000 (by kernel_rfl) (cellarerref02_Same_con ha_1520) (by kernel_rfl) ?_
      refine W.cond 0 100000 h (by kernel_rfl) (fun h => ?_) (fun h => ?_)
      ·
        refine W.bind h fun a_1521 ha_1521 h => ?_
        refine W.call 0 100000 (by kernel_rfl) (cellarerlaw20_awake_con ha_1521) (by kernel_rfl) ?_
        refine W.yes 0 100000 (by kernel_rfl) ?_
        exact W.retT 0 100000 h (by kernel_rfl)
      ·
        refine W.no 0 100000 (by kernel_rfl) ?_
        exact W.retT 0 100000 h (by kernel_rfl)
  · refine W.next 0 7 (by kernel_rfl) ?_
    refine W.bind h1523 fun a_1511 ha_1511 h1523 => ?_
    refine W.call 1 100000 (by kernel_rfl) (cellarerlaw20_few_con ha_1511) (by kernel_rfl) ?_
    refine W.cond 1 100000 h1523 (by kernel_rfl) (fun h1523 => ?_) (fun h1523 => ?_)
    ·
      refine W.yes 1 100000 (by kernel_rfl) ?_
      refine W.yes 1 100000 (by kernel_rfl) ?_
      refine W.yes 1 100000 (by kernel_rfl) ?_
      refine W.yes 1 100000 (by kernel_rfl) ?_
      refine W.bind h1523 fun a_1512 ha_1512 h1523 => ?_
      refine W.call 1 100000 (by kernel_rfl) (cellarerlaw20_awake_con ha_1512) (by kernel_rfl) ?_
      cases h1523; exact W.retK 1 100000 K1523 (by kernel_rfl)
    ·
      refine W.no 1 100000 (by kernel_rfl) ?_
      refine W.bind h1523 fun a_1513 ha_1513 h1523 => ?_
      refine W.call 1 100000 (by kernel_rfl) (cellarerlaw19_Few_con ha_1513) (by kernel_rfl) ?_
      refine W.no 1 100000 (by kernel_rfl) ?_
      refine W.no 1 100000 (by kernel_rfl) ?_
      refine W.cond 1 100000 h1523 (by kernel_rfl) (fun h1523 => ?_) (fun h1523 => ?_)
      ·
        refine W.bind h1523 fun a_1514 ha_1514 h1523 => ?_
        refine W.call 1 100000 (by kernel_rfl) (cellarerlaw20_awake_con ha_1514) (by kernel_rfl) ?_
        cases h1523; exact W.retK 1 100000 K1523 (by kernel_rfl)
      ·
        cases h1523; exact W.at 1 100000 [] [2, 3] (by kernel_rfl) K1523

end Go.Cellar
