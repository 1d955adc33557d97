/- What the program's functions come to: printed by a program, checked by Lean. No condition. -/
import Derived.Test.YtjdjmbogopadaaaGreatDoorCon12a
set_option maxRecDepth 4000
set_option synthInstance.maxHeartbeats 2000000
set_option synthInstance.maxSize 100000
set_option linter.unusedVariables false
namespace Go.Cellar
open Go

theorem cellarerlaw12_TrigsSets_con {l_993 : List (List UInt8 × List UInt8 × Bool)} {pkg_994 : List UInt8} {own_995 : List (List UInt8 × List UInt8 × Bool)} {r : Bool} (h : cellarerlaw12_TrigsSets l_993 pkg_994 own_995 = some r) : Con Go.Proofs.Tryz.prog 6 [AV.list (Ty.prod Ty.str (Ty.prod Ty.str Ty.bool)) l_993 Bool.false, AV.str pkg_994, AV.list (Ty.prod Ty.str (Ty.prod Ty.str Ty.bool)) own_995 Bool.false] [] (cellarerlaw12_TrigsSets_res r) (cellarerlaw12_TrigsSets_out r) := by
  refine W.con (by kernel_rfl) ?_
  unfold cellarerlaw12_TrigsSets at h
  refine W.join (fun t => (Sum.elim (fun t_1002 => r = (t_1002)) (fun t_1003 => Walk Go.Proofs.Tryz.prog 6 (Cfg.mk Mode.run (seqTodo Go.Proofs.Tryz.prog 6 1) (St.mk [AV.list (Ty.prod Ty.str (Ty.prod Ty.str Ty.bool)) l_993 Bool.false, AV.str pkg_994, AV.list (Ty.prod Ty.str (Ty.prod Ty.str Ty.bool)) own_995 Bool.false, jj, jj, jj, jj, jj, jj, jj, jj, jj, jj, jj, jj, jj, jj, jj, jj, jj, jj, jj, jj, jj, jj, jj, jj, jj, jj, jj, jj, jj, jj, jj, jj, jj, jj, jj, jj, jj, jj, jj, jj, jj, jj, jj, jj, jj, jj, jj, jj, jj, jj, jj, jj, jj, jj, jj, jj, jj, jj, jj, jj] [] (0 : Nat))) (cellarerlaw12_TrigsSets_res r) (cellarerlaw12_TrigsSets_out r))) t) h (fun t h => ?_) (fun t1019 h1019 K1019 => ?_)
  ·
    rcases t with t_1002 | t_1003
    · replace h := W.inl (h)
      refine W.elimL (?_)
      exact (Option.some.inj h).symm
    · replace h := W.inr (h)
      refine W.elimR (?_)
      refine W.bind h fun a_1004 ha_1004 h => ?_
      refine W.call 0 100000 (by kernel_rfl) (trigs_Set_con ha_1004) (by kernel_rfl) ?_
      refine W.join (fun t => (Sum.elim (fun t_1013 => r = (Bool.false)) (fun t_1014 => Walk Go.Proofs.Tryz.prog 6 (Cfg.mk Mode.run (seqTodo Go.Proofs.Tryz.prog 6 5) (St.mk [jj, AV.str pkg_994, AV.list (Ty.prod Ty.str (Ty.prod Ty.str Ty.bool)) own_995 Bool.false, jj, jj, jj, jj, AV.view (0 : Nat) (0 : Nat) Option.none, jj, jj, jj, jj, jj, jj, jj, jj, jj, jj, jj, jj, jj, jj, jj, jj, jj, jj, jj, jj, jj, jj, jj, jj, jj, jj, jj, jj, jj, jj, jj, jj, jj, jj, jj, jj, jj, jj, jj, jj, jj, jj, jj, jj, jj, jj, jj, jj, jj, jj, jj, jj, jj, jj, jj] [AO.row (Ty.prod Ty.str (Ty.prod Ty.str Ty.bool)) a_1004] (0 : Nat))) (cellarerlaw12_TrigsSets_res r) (cellarerlaw12_TrigsSets_out r))) t) h (fun t h => ?_) (fun t1018 h1018 K1018 => ?_)
      ·
        rcases t with t_1013 | t_1014
        · replace h := W.inl (h)
          refine W.elimL (?_)
          exact (Option.some.inj h).symm
        · replace h := W.inr (h)
          refine W.elimR (?_)
          refine W.bind h fun a_1015 ha_1015 h => ?_
          refine W.call 0 100000 (by kernel_rfl) (trigs_Of_con ha_1015) (by kernel_rfl) ?_
          refine W.cond 0 100000 h (by kernel_rfl) (fun h => ?_) (fun h => ?_)
          ·
            refine W.bind h fun a_1016 ha_1016 h => ?_
            refine W.call 0 100000 (by kernel_rfl) (cellarerlaw12_awake_con ha_1016) (by kernel_rfl) ?_
            refine W.yes 0 100000 (by kernel_rfl) ?_
            exact W.retT 0 100000 h (by kernel_rfl)
          ·
            refine W.no 0 100000 (by kernel_rfl) ?_
            exact W.retT 0 100000 h (by kernel_rfl)
      · refine W.next 0 3 (by kernel_rfl) ?_
        refine W.bind h1018 fun a_1005 ha_1005 h1018 => ?_
        refine W.call 1 100000 (by kernel_rfl) (cellarerref12_Set_con ha_1005) (by kernel_rfl) ?_
        refine W.bind h1018 fun a_1006 ha_1006 h1018 => ?_
        refine W.call 1 100000 (by kernel_rfl) (cellarerref12_Same_con ha_1006) (by kernel_rfl) ?_
        refine W.cond 1 100000 h1018 (by kernel_rfl) (fun h1018 => ?_) (fun h1018 => ?_)
        ·
          refine W.yes 1 100000 (by kernel_rfl) ?_
          refine W.yes 1 100000 (by kernel_rfl) ?_
          refine W.yes 1 100000 (by kernel_rfl) ?_
          refine W.yes 1 100000 (by kernel_rfl) ?_
          refine W.yes 1 100000 (by kernel_rfl) ?_
          refine W.yes 1 100000 (by kernel_rfl) ?_
          refine W.yes 1 100000 (by kernel_rfl) ?_
          refine W.yes 1 100000 (by kernel_rfl) ?_
          refine W.yes 1 100000 (by kernel_rfl) ?_
          refine W.yes 1 100000 (by kernel_rfl) ?_
          refine W.yes 1 100000 (by kernel_rfl) ?_
          refine W.yes 1 100000 (by kernel_rfl) ?_
          refine W.yes 1 100000 (by kernel_rfl) ?_
          refine W.yes 1 100000 (by kernel_rfl) ?_
          refine W.yes 1 100000 (by kernel_rfl) ?_
          refine W.yes 1 100000 (by kernel_rfl) ?_
          refine W.yes 1 100000 (by kernel_rfl) ?_
          refine W.yes 1 100000 (by kernel_rfl) ?_
          cases h1018; exact W.retK 1 100000 K1018 (by kernel_rfl)
        ·
          refine W.no 1 100000 (by kernel_rfl) ?_
          refine W.no 1 100000 (by kernel_rfl) ?_
          refine W.bind h1018 fun a_1007 ha_1007 h1018 => ?_
          refine W.call 1 100000 (by kernel_rfl) (trigs_Of_con ha_1007) (by kernel_rfl) ?_
          refine W.no 1 100000 (by kernel_rfl) ?_
          refine W.no 1 100000 (by kernel_rfl) ?_
          refine W.no 1 100000 (by kernel_rfl) ?_
          refine W.bind h1018 fun a_1008 ha_1008 h1018 => ?_
          refine W.call 1 100000 (by kernel_rfl) (cellarerref12_Of_con ha_1008) (by kernel_rfl) ?_
          refine W.no 1 100000 (by kernel_rfl) ?_
          refine W.bind h1018 fun a_1009 ha_1009 h1018 => ?_
          refine W.call 1 100000 (by kernel_rfl) (cellarerref12_Same_con ha_1009) (by kernel_rfl) ?_
          refine W.no 1 100000 (by kernel_rfl) ?_
          refine W.no 1 100000 (by kernel_rfl) ?_
          refine W.cond 1 100000 h1018 (by kernel_rfl) (fun h1018 => ?_) (fun h1018 => ?_)
          ·
            refine W.yes 1 100000 (by kernel_rfl) ?_
            refine W.yes 1 100000 (by kernel_rfl) ?_
            refine W.yes 1 100000 (by kernel_rfl) ?_
            refine W.yes 1 100000 (by kernel_rfl) ?_
            refine W.yes 1 100000 (by kernel_rfl) ?_
            refine W.yes 1 100000 (by kernel_rfl) ?_
            refine W.yes 1 100000 (by kernel_rfl) ?_
            refine W.yes 1 100000 (by kernel_rfl) ?_
            refine W.yes 1 100000 (by kernel_rfl) ?_
            cases h1018; exact W.retK 1 100000 K1018 (by kernel_rfl)
          ·
            refine W.no 1 100000 (by kernel_rfl) ?_
            refine W.no 1 100000 (by kernel_rfl) ?_
            refine W.bind h1018 fun a_1010 ha_1010 h1018 => ?_
            refine W.call 1 100000 (by kernel_rfl) (trigs_For_con ha_1010) (by kernel_rfl) ?_
            refine W.no 1 100000 (by kernel_rfl) ?_
            refine W.no 1 100000 (by kernel_rfl) ?_
            refine W.no 1 100000 (by kernel_rfl) ?_
            refine W.bind h1018 fun a_1011 ha_1011 h1018 => ?_
            refine W.call 1 100000 (by kernel_rfl) (cellarerref12_For_con ha_1011) (by kernel_rfl) ?_
            refine W.no 1 100000 (by kernel_rfl) ?_
            refine W.bind h1018 fun a_1012 ha_1012 h1018 => ?_
            refine W.call 1 100000 (by kernel_rfl) (cellarerref12_Same_con ha_1012) (by kernel_rfl) ?_
            refine W.no 1 100000 (by kernel_rfl) ?_
            refine W.no 1 100000 (by kernel_rfl) ?_
            refine W.cond 1 100000 h1018 (by kernel_rfl) (fun h1018 => ?_) (fun h1018 => ?_)
            ·
              cases h1018; exact W.retK 1 100000 K1018 (by kernel_rfl)
            ·
              cases h1018; exact W.at 1 100000 [] [1, 2, 7] (by kernel_rfl) K1018
  · refine W.next 0 5 (by kernel_rfl) ?_
    refine W.bind h1019 fun a_996 ha_996 h1019 => ?_
    refine W.call 1 100000 (by kernel_rfl) (cellarerlaw12_Few_con ha_996) (by kernel_rfl) ?_
    refine W.cond 1 100000 h1019 (by kernel_rfl) (fun h1019 => ?_) (fun h1019 => ?_)
    ·
      refine W.yes 1 100000 (by kernel_rfl) ?_
      refine W.yes 1 100000 (by kernel_rfl) ?_
      refine W.yes 1 100000 (by kernel_rfl) ?_
      refine W.yes 1 100000 (by kernel_rfl) ?_
      refine W.yes 1 100000 (by kernel_rfl) ?_
      refine W.yes 1 100000 (by kernel_rfl) ?_
      refine W.yes 1 100000 (by kernel_rfl) ?_
      refine W.yes 1 100000 (by kernel_rfl) ?_
      refine W.bind h1019 fun a_997 ha_997 h1019 => ?_
      refine W.call 1 100000 (by kernel_rfl) (cellarerlaw12_awake_con ha_997) (by kernel_rfl) ?_
      cases h1019; exact W.retK 1 100000 K1019 (by kernel_rfl)
    ·
      refine W.no 1 100000 (by kernel_rfl) ?_
      refine W.bind h1019 fun a_998 ha_998 h1019 => ?_
      refine W.call 1 100000 (by kernel_rfl) (cellarerlaw12_Few_con ha_998) (by kernel_rfl) ?_
      refine W.no 1 100000 (by kernel_rfl) ?_
      refine W.no 1 100000 (by kernel_rfl) ?_
      refine W.cond 1 100000 h1019 (by kernel_rfl) (fun h1019 => ?_) (fun h1019 => ?_)
      ·
        refine W.yes 1 100000 (by kernel_rfl) ?_
        refine W.yes 1 100000 (by kernel_rfl) ?_
        refine W.yes 1 100000 (by kernel_rfl) ?_
        refine W.yes 1 100000 (by kernel_rfl) ?_
        refine W.bind h1019 fun a_999 ha_999 h1019 => ?_
        refine W.call 1 100000 (by kernel_rfl) (cellarerlaw12_awake_con ha_999) (by kernel_rfl) ?_
        cases h1019; exact W.retK 1 100000 K1019 (by kernel_rfl)
      ·
        refine W.no 1 100000 (by kernel_rfl) ?_
        refine W.no 1 100000 (by kernel_rfl) ?_
        refine W.no 1 100000 (by kernel_rfl) ?_
        refine W.cond 1 100000 h1019 (by kernel_rfl) (fun h1019 => ?_) (fun h1019 => ?_)
        ·
          refine W.bind h1019 fun a_1000 ha_1000 h1019 => ?_
          refine W.call 1 100000 (by kernel_rfl) (cellarerlaw12_awake_con ha_1000) (by kernel_rfl) ?_
          cases h1019; exact W.retK 1 100000 K1019 (by kernel_rfl)
        ·
          cases h1019; exact W.at 1 100000 [] [0, 1, 2] (by kernel_rfl) K1019

end Go.Cellar
