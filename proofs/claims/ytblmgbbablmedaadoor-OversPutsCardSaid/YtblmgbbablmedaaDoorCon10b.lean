/- What the program's functions come to: printed by a program, checked by Lean. No condition. -/
import Derived.Test.YtblmgbbablmedaaDoorCon10a
set_option maxRecDepth 4000
set_option synthInstance.maxHeartbeats 2000000
set_option synthInstance.maxSize 100000
set_option linter.unusedVariables false
namespace Go.Cellar
open Go

theorem cellarerlaw10_OversPuts_con {l_726 : List (List UInt8 × Int × Int × Int)} {x_727 : List UInt8} {x_728 : Int} {x_729 : Int} {x_730 : Int} {p_731 : List UInt8} {r : Bool} (h : cellarerlaw10_OversPuts l_726 x_727 x_728 x_729 x_730 p_731 = some r) : Con Go.Proofs.Tryd.prog 6 [AV.list (Ty.prod Ty.str (Ty.prod (Ty.int IntKind.i64) (Ty.prod (Ty.int IntKind.i64) (Ty.int IntKind.i64)))) l_726 Bool.false, AV.agg [AV.str x_727, AV.int IntKind.i64 x_728, AV.int IntKind.i64 x_729, AV.int IntKind.i64 x_730], AV.str p_731] [] (cellarerlaw10_OversPuts_res r) (cellarerlaw10_OversPuts_out r) := by
  refine W.con (by kernel_rfl) ?_
  unfold cellarerlaw10_OversPuts at h
  refine W.join (fun t => (Sum.elim (fun t_738 => r = (t_738)) (fun t_739 => Walk Go.Proofs.Tryd.prog 6 (Cfg.mk Mode.run (seqTodo Go.Proofs.Tryd.prog 6 1) (St.mk [AV.list (Ty.prod Ty.str (Ty.prod (Ty.int IntKind.i64) (Ty.prod (Ty.int IntKind.i64) (Ty.int IntKind.i64)))) l_726 Bool.false, jj, AV.str p_731, jj, AV.ptr (0 : Nat) (0 : Nat), jj, jj, jj, jj, jj, jj, jj, jj, jj, jj, jj, jj, jj, jj, jj, jj, jj, jj, jj, jj, jj, jj, jj, jj, jj, jj, jj, jj, jj, jj, jj, jj, jj, jj, jj, jj, jj, jj, jj, jj, jj, jj, jj, jj, jj, jj, jj, jj, jj, jj, jj, jj, jj, jj, jj, jj, jj, jj, jj, jj, jj, jj, jj, jj, jj, jj, jj, jj, jj, jj, jj, jj] [AO.box [AV.str x_727, AV.int IntKind.i64 x_728, AV.int IntKind.i64 x_729, AV.int IntKind.i64 x_730]] (0 : Nat))) (cellarerlaw10_OversPuts_res r) (cellarerlaw10_OversPuts_out r))) t) h (fun t h => ?_) (fun t923 h923 K923 => ?_)
  ·
    rcases t with t_738 | t_739
    · replace h := W.inl (h)
      refine W.elimL (?_)
      exact (Option.some.inj h).symm
    · replace h := W.inr (h)
      refine W.elimR (?_)
      refine W.bind h fun a_802 ha_802 h => ?_
      refine W.call 0 100000 (by kernel_rfl) (overs_Put_con ha_802) (by kernel_rfl) ?_
      refine W.bind h fun a_853 ha_853 h => ?_
      refine W.call 0 100000 (by kernel_rfl) (overs_Drop_con ha_853) (by kernel_rfl) ?_
      refine W.join (fun t => (Sum.elim (fun t_916 => r = (Bool.false)) (fun t_917 => Walk Go.Proofs.Tryd.prog 6 (Cfg.mk Mode.run (seqTodo Go.Proofs.Tryd.prog 6 5) (St.mk [jj, jj, AV.str p_731, jj, AV.ptr (0 : Nat) (0 : Nat), jj, jj, AV.view (1 : Nat) (0 : Nat) Option.none, AV.view (2 : Nat) (0 : Nat) Option.none, jj, jj, jj, jj, jj, jj, jj, jj, jj, jj, jj, jj, jj, jj, jj, jj, jj, jj, jj, jj, jj, jj, jj, jj, jj, jj, jj, jj, jj, jj, jj, jj, jj, jj, jj, jj, jj, jj, jj, jj, jj, jj, jj, jj, jj, jj, jj, jj, jj, jj, jj, jj, jj, jj, jj, jj, jj, jj, jj, jj, jj, jj, jj, jj, jj, jj, jj, jj] [AO.box [AV.str x_727, AV.int IntKind.i64 x_728, AV.int IntKind.i64 x_729, AV.int IntKind.i64 x_730], AO.row (Ty.prod Ty.str (Ty.prod (Ty.int IntKind.i64) (Ty.prod (Ty.int IntKind.i64) (Ty.int IntKind.i64)))) a_802, AO.row (Ty.prod Ty.str (Ty.prod (Ty.int IntKind.i64) (Ty.prod (Ty.int IntKind.i64) (Ty.int IntKind.i64)))) a_853] (0 : Nat))) (cellarerlaw10_OversPuts_res r) (cellarerlaw10_OversPuts_out r))) t) h (fun t h => ?_) (fun t922 h922 K922 => ?_)
      ·
        rcases t with t_916 | t_917
        · replace h := W.inl (h)
          refine W.elimL (?_)
          exact (Option.some.inj h).symm
        · replace h := W.inr (h)
          refine W.elimR (?_)
          refine W.bind h fun a_918 ha_918 h => ?_
          refine W.call 0 100000 (by kernel_rfl) (overs_Meta_con ha_918) (by kernel_rfl) ?_
          refine W.cond 0 100000 h (by kernel_rfl) (fun h => ?_) (fun h => ?_)
          ·
            refine W.yes 0 100000 (by kernel_rfl) ?_
            refine W.yes 0 100000 (by kernel_rfl) ?_
            refine W.bind h fun a_919 ha_919 h => ?_
            refine W.call 0 100000 (by kernel_rfl) (overs_Find_con ha_919) (by kernel_rfl) ?_
            refine W.yes 0 100000 (by kernel_rfl) ?_
            refine W.yes 0 100000 (by kernel_rfl) ?_
            refine W.cond 0 100000 h (by kernel_rfl) (fun h => ?_) (fun h => ?_)
            ·
              refine W.bind h fun a_920 ha_920 h => ?_
              refine W.call 0 100000 (by kernel_rfl) (cellarerlaw10_awake_con ha_920) (by kernel_rfl) ?_
              refine W.yes 0 100000 (by kernel_rfl) ?_
              exact W.retT 0 100000 h (by kernel_rfl)
            ·
              refine W.no 0 100000 (by kernel_rfl) ?_
              exact W.retT 0 100000 h (by kernel_rfl)
          ·
            refine W.no 0 100000 (by kernel_rfl) ?_
            refine W.no 0 100000 (by kernel_rfl) ?_
            refine W.no 0 100000 (by kernel_rfl) ?_
            refine W.no 0 100000 (by kernel_rfl) ?_
            refine W.no 0 100000 (by kernel_rfl) ?_
            refine W.no 0 100000 (by kernel_rfl) ?_
            exact W.retT 0 100000 h (by kernel_rfl)
      · refine W.next 0 4 (by kernel_rfl) ?_
        refine W.bind h922 fun a_892 ha_892 h922 => ?_
        refine W.call 1 100000 (by kernel_rfl) (cellarerref10_Put_con ha_892) (by kernel_rfl) ?_
        refine W.bind h922 fun a_893 ha_893 h922 => ?_
        refine W.call 1 100000 (by kernel_rfl) (cellarerref10_Same_con ha_893) (by kernel_rfl) ?_
        refine W.cond 1 100000 h922 (by kernel_rfl) (fun h922 => ?_) (fun h922 => ?_)
        ·
          refine W.yes 1 100000 (by kernel_rfl) ?_
          refine W.yes 1 100000 (by kernel_rfl) ?_
          refine W.yes 1 100000 (by kernel_rfl) ?_
          refine W.yes 1 100000 (by kernel_rfl) ?_
          refine W.yes 1 100000 (by kernel_rfl) ?_
          refine W.yes 1 100000 (by kernel_rfl) ?_
          refine W.yes 1 100000 (by kernel_rfl) ?_
          refine W.yes 1 100000 (by kernel_rfl) ?_
          refine W.yes 1 100000 (by kernel_rfl) ?_
          refine W.yes 1 100000 (by kernel_rfl) ?_
          refine W.yes 1 100000 (by kernel_rfl) ?_
          refine W.yes 1 100000 (by kernel_rfl) ?_
          refine W.yes 1 100000 (by kernel_rfl) ?_
          refine W.yes 1 100000 (by kernel_rfl) ?_
          refine W.yes 1 100000 (by kernel_rfl) ?_
          refine W.yes 1 100000 (by kernel_rfl) ?_
          refine W.yes 1 100000 (by kernel_rfl) ?_
          refine W.yes 1 100000 (by kernel_rfl) ?_
          refine W.yes 1 100000 (by kernel_rfl) ?_
          refine W.yes 1 100000 (by kernel_rfl) ?_
          refine W.yes 1 100000 (by kernel_rfl) ?_
          cases h922; exact W.retK 1 100000 K922 (by kernel_rfl)
        ·
          refine W.no 1 100000 (by kernel_rfl) ?_
          refine W.no 1 100000 (by kernel_rfl) ?_
          refine W.no 1 100000 (by kernel_rfl) ?_
          refine W.bind h922 fun a_910 ha_910 h922 => ?_
          refine W.call 1 100000 (by kernel_rfl) (cellarerref10_Drop_con ha_910) (by kernel_rfl) ?_
          refine W.no 1 100000 (by kernel_rfl) ?_
          refine W.bind h922 fun a_911 ha_911 h922 => ?_
          refine W.call 1 100000 (by kernel_rfl) (cellarerref10_Same_con ha_911) (by kernel_rfl) ?_
          refine W.no 1 100000 (by kernel_rfl) ?_
          refine W.no 1 100000 (by kernel_rfl) ?_
          refine W.cond 1 100000 h922 (by kernel_rfl) (fun h922 => ?_) (fun h922 => ?_)
          ·
            refine W.yes 1 100000 (by kernel_rfl) ?_
            refine W.yes 1 100000 (by kernel_rfl) ?_
            refine W.yes 1 100000 (by kernel_rfl) ?_
            refine W.yes 1 100000 (by kernel_rfl) ?_
            refine W.yes 1 100000 (by kernel_rfl) ?_
            refine W.yes 1 100000 (by kernel_rfl) ?_
            refine W.yes 1 100000 (by kernel_rfl) ?_
            refine W.yes 1 100000 (by kernel_rfl) ?_
            refine W.yes 1 100000 (by kernel_rfl) ?_
            refine W.yes 1 100000 (by kernel_rfl) ?_
            refine W.yes 1 100000 (by kernel_rfl) ?_
            refine W.yes 1 100000 (by kernel_rfl) ?_
            refine W.yes 1 100000 (by kernel_rfl) ?_
            refine W.yes 1 100000 (by kernel_rfl) ?_
            cases h922; exact W.retK 1 100000 K922 (by kernel_rfl)
          ·
            refine W.no 1 100000 (by kernel_rfl) ?_
            refine W.no 1 100000 (by kernel_rfl) ?_
            refine W.bind h922 fun a_912 ha_912 h922 => ?_
            refine W.call 1 100000 (by kernel_rfl) (overs_Find_con ha_912) (by kernel_rfl) ?_
            refine W.no 1 100000 (by kernel_rfl) ?_
            refine W.no 1 100000 (by kernel_rfl) ?_
            refine W.no 1 100000 (by kernel_rfl) ?_
            refine W.bind h922 fun a_913 ha_913 h922 => ?_
            refine W.call 1 100000 (by kernel_rfl) (cellarerref10_Find_con ha_913) (by kernel_rfl) ?_
            refine W.no 1 100000 (by kernel_rfl) ?_
            refine W.no 1 100000 (by kernel_rfl) ?_
            refine W.cond 1 100000 h922 (by kernel_rfl) (fun h922 => ?_) (fun h922 => ?_)
            ·
              refine W.yes 1 100000 (by kernel_rfl) ?_
              refine W.yes 1 100000 (by kernel_rfl) ?_
              refine W.yes 1 100000 (by kernel_rfl) ?_
              refine W.yes 1 100000 (by kernel_rfl) ?_
              refine W.yes 1 100000 (by kernel_rfl) ?_
              refine W.yes 1 100000 (by kernel_rfl) ?_
              cases h922; exact W.retK 1 100000 K922 (by kernel_rfl)
            ·
              refine W.no 1 100000 (by kernel_rfl) ?_
              refine W.bind h922 fun a_914 ha_914 h922 => ?_
              refine W.call 1 100000 (by kernel_rfl) (overs_Right_con ha_914) (by kernel_rfl) ?_
              refine W.no 1 100000 (by kernel_rfl) ?_
              refine W.no 1 100000 (by kernel_rfl) ?_
              refine W.bind h922 fun a_915 ha_915 h922 => ?_
              refine W.call 1 100000 (by kernel_rfl) (cellarerref10_Right_con ha_915) (by kernel_rfl) ?_
              refine W.no 1 100000 (by kernel_rfl) ?_
              refine W.no 1 100000 (by kernel_rfl) ?_
              refine W.cond 1 100000 h922 (by kernel_rfl) (fun h922 => ?_) (fun h922 => ?_)
              ·
                cases h922; exact W.retK 1 100000 K922 (by kernel_rfl)
              ·
                cases h922; exact W.at 1 100000 [] [2, 4, 7, 8] (by kernel_rfl) K922
  · refine W.next 0 6 (by kernel_rfl) ?_
    refine W.bind h923 fun a_732 ha_732 h923 => ?_
    refine W.call 1 100000 (by kernel_rfl) (cellarerlaw10_few_con ha_732) (by kernel_rfl) ?_
    refine W.cond 1 100000 h923 (by kernel_rfl) (fun h923 => ?_) (fun h923 => ?_)
    ·
      refine W.yes 1 100000 (by kernel_rfl) ?_
      refine W.yes 1 100000 (by kernel_rfl) ?_
      refine W.yes 1 100000 (by kernel_rfl) ?_
      refine W.yes 1 100000 (by kernel_rfl) ?_
      refine W.yes 1 100000 (by kernel_rfl) ?_
      refine W.yes 1 100000 (by kernel_rfl) ?_
      refine W.yes 1 100000 (by kernel_rfl) ?_
      refine W.yes 1 100000 (by kernel_rfl) ?_
      refine W.yes 1 100000 (by kernel_rfl) ?_
      refine W.bind h923 fun a_733 ha_733 h923 => ?_
      refine W.call 1 100000 (by kernel_rfl) (cellarerlaw10_awake_con ha_733) (by kernel_rfl) ?_
      cases h923; exact W.retK 1 100000 K923 (by kernel_rfl)
    ·
      refine W.no 1 100000 (by kernel_rfl) ?_
      refine W.no 1 100000 (by kernel_rfl) ?_
      refine W.bind h923 fun a_734 ha_734 h923 => ?_
      refine W.call 1 100000 (by kernel_rfl) (cellarerlaw10_few_con ha_734) (by kernel_rfl) ?_
      refine W.no 1 100000 (by kernel_rfl) ?_
      refine W.no 1 100000 (by kernel_rfl) ?_
      refine W.cond 1 100000 h923 (by kernel_rfl) (fun h923 => ?_) (fun h923 => ?_)
      ·
        refine W.yes 1 100000 (by kernel_rfl) ?_
        refine W.yes 1 100000 (by kernel_rfl) ?_
        refine W.yes 1 100000 (by kernel_rfl) ?_
        refine W.yes 1 100000 (by kernel_rfl) ?_
        refine W.bind h923 fun a_735 ha_735 h923 => ?_
        refine W.call 1 100000 (by kernel_rfl) (cellarerlaw10_awake_con ha_735) (by kernel_rfl) ?_
        cases h923; exact W.retK 1 100000 K923 (by kernel_rfl)
      ·
        refine W.no 1 100000 (by kernel_rfl) ?_
        refine W.no 1 100000 (by kernel_rfl) ?_
        refine W.no 1 100000 (by kernel_rfl) ?_
        refine W.cond 1 100000 h923 (by kernel_rfl) (fun h923 => ?_) (fun h923 => ?_)
        ·
          refine W.bind h923 fun a_736 ha_736 h923 => ?_
          refine W.call 1 100000 (by kernel_rfl) (cellarerlaw10_awake_con ha_736) (by kernel_rfl) ?_
          cases h923; exact W.retK 1 100000 K923 (by kernel_rfl)
        ·
          cases h923; exact W.at 1 100000 [] [0, 2, 4] (by kernel_rfl) K923

end Go.Cellar
