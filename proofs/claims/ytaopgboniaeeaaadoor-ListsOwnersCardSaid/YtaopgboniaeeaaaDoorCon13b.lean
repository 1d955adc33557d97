/- What the program's functions come to: printed by a program, checked by Lean. No condition. -/
import Derived.Test.YtaopgboniaeeaaaDoorCon13a
set_option maxRecDepth 4000
set_option synthInstance.maxHeartbeats 2000000
set_option synthInstance.maxSize 100000
set_option linter.unusedVariables false
namespace Go.Cellar
open Go

theorem cellarerlaw13_ListsPuts_con {l_896 : List (List UInt8 × List (List UInt8))} {x_897 : List UInt8} {x_898 : List (List UInt8)} {name_899 : List UInt8} {r : Bool} (h : cellarerlaw13_ListsPuts l_896 x_897 x_898 name_899 = some r) : Con Go.Proofs.Tryd.prog 6 [AV.list (Ty.prod Ty.str (Ty.list Ty.str)) l_896 Bool.false, AV.agg [AV.str x_897, AV.list Ty.str x_898 Bool.false], AV.str name_899] [] (cellarerlaw13_ListsPuts_res r) (cellarerlaw13_ListsPuts_out r) := by
  refine W.con (by kernel_rfl) ?_
  unfold cellarerlaw13_ListsPuts at h
  refine W.join (fun t => (Sum.elim (fun t_906 => r = (t_906)) (fun t_907 => Walk Go.Proofs.Tryd.prog 6 (Cfg.mk Mode.run (seqTodo Go.Proofs.Tryd.prog 6 1) (St.mk [AV.list (Ty.prod Ty.str (Ty.list Ty.str)) l_896 Bool.false, jj, AV.str name_899, jj, AV.ptr (0 : Nat) (0 : Nat), jj, jj, jj, jj, jj, jj, jj, jj, jj, jj, jj, jj, jj, jj, jj, jj, jj, jj, jj, jj, jj, jj, jj, jj, jj, jj, jj, jj, jj, jj, jj, jj, jj, jj, jj, jj, jj, jj, jj, jj, jj, jj, jj, jj, jj, jj, jj, jj, jj, jj, jj, jj, jj, jj, jj, jj, jj, jj, jj, jj, jj, jj] [AO.box [AV.str x_897, AV.list Ty.str x_898 Bool.false]] (0 : Nat))) (cellarerlaw13_ListsPuts_res r) (cellarerlaw13_ListsPuts_out r))) t) h (fun t h => ?_) (fun t920 h920 K920 => ?_)
  ·
    rcases t with t_906 | t_907
    · replace h := W.inl (h)
      refine W.elimL (?_)
      exact (Option.some.inj h).symm
    · replace h := W.inr (h)
      refine W.elimR (?_)
      refine W.bind h fun a_908 ha_908 h => ?_
      refine W.call 0 100000 (by kernel_rfl) (lists_Put_con ha_908) (by kernel_rfl) ?_
      refine W.bind h fun a_909 ha_909 h => ?_
      refine W.call 0 100000 (by kernel_rfl) (lists_Drop_con ha_909) (by kernel_rfl) ?_
      refine W.bind h fun a_910 ha_910 h => ?_
      refine W.call 0 100000 (by kernel_rfl) (cellarerref13_Put_con ha_910) (by kernel_rfl) ?_
      refine W.bind h fun a_911 ha_911 h => ?_
      refine W.call 0 100000 (by kernel_rfl) (cellarerref13_Same_con ha_911) (by kernel_rfl) ?_
      refine W.cond 0 100000 h (by kernel_rfl) (fun h => ?_) (fun h => ?_)
      ·
        refine W.yes 0 100000 (by kernel_rfl) ?_
        refine W.yes 0 100000 (by kernel_rfl) ?_
        refine W.yes 0 100000 (by kernel_rfl) ?_
        refine W.bind h fun a_912 ha_912 h => ?_
        refine W.call 0 100000 (by kernel_rfl) (cellarerref13_Drop_con ha_912) (by kernel_rfl) ?_
        refine W.yes 0 100000 (by kernel_rfl) ?_
        refine W.bind h fun a_913 ha_913 h => ?_
        refine W.call 0 100000 (by kernel_rfl) (cellarerref13_Same_con ha_913) (by kernel_rfl) ?_
        refine W.yes 0 100000 (by kernel_rfl) ?_
        refine W.cond 0 100000 h (by kernel_rfl) (fun h => ?_) (fun h => ?_)
        ·
          refine W.yes 0 100000 (by kernel_rfl) ?_
          refine W.yes 0 100000 (by kernel_rfl) ?_
          refine W.bind h fun a_914 ha_914 h => ?_
          refine W.call 0 100000 (by kernel_rfl) (lists_Find_con ha_914) (by kernel_rfl) ?_
          refine W.yes 0 100000 (by kernel_rfl) ?_
          refine W.yes 0 100000 (by kernel_rfl) ?_
          refine W.yes 0 100000 (by kernel_rfl) ?_
          refine W.bind h fun a_915 ha_915 h => ?_
          refine W.call 0 100000 (by kernel_rfl) (cellarerref13_Find_con ha_915) (by kernel_rfl) ?_
          refine W.yes 0 100000 (by kernel_rfl) ?_
          refine W.yes 0 100000 (by kernel_rfl) ?_
          refine W.cond 0 100000 h (by kernel_rfl) (fun h => ?_) (fun h => ?_)
          ·
            refine W.yes 0 100000 (by kernel_rfl) ?_
            refine W.yes 0 100000 (by kernel_rfl) ?_
            refine W.yes 0 100000 (by kernel_rfl) ?_
            refine W.bind h fun a_916 ha_916 h => ?_
            refine W.call 0 100000 (by kernel_rfl) (lists_Find_con ha_916) (by kernel_rfl) ?_
            refine W.yes 0 100000 (by kernel_rfl) ?_
            refine W.yes 0 100000 (by kernel_rfl) ?_
            refine W.cond 0 100000 h (by kernel_rfl) (fun h => ?_) (fun h => ?_)
            ·
              refine W.yes 0 100000 (by kernel_rfl) ?_
              refine W.yes 0 100000 (by kernel_rfl) ?_
              refine W.bind h fun a_917 ha_917 h => ?_
              refine W.call 0 100000 (by kernel_rfl) (lists_Find_con ha_917) (by kernel_rfl) ?_
              refine W.yes 0 100000 (by kernel_rfl) ?_
              refine W.yes 0 100000 (by kernel_rfl) ?_
              refine W.cond 0 100000 h (by kernel_rfl) (fun h => ?_) (fun h => ?_)
              ·
                refine W.bind h fun a_918 ha_918 h => ?_
                refine W.call 0 100000 (by kernel_rfl) (cellarerlaw13_awake_con ha_918) (by kernel_rfl) ?_
                refine W.yes 0 100000 (by kernel_rfl) ?_
                exact W.retT 0 100000 h (by kernel_rfl)
              ·
                refine W.no 0 100000 (by kernel_rfl) ?_
                exact W.retT 0 100000 h (by kernel_rfl)
            ·
              refine W.no 0 100000 (by kernel_rfl) ?_
              refine W.no 0 100000 (by kernel_rfl) ?_
              refine W.no 0 100000 (by kernel_rfl) ?_
              refine W.no 0 100000 (by kernel_rfl) ?_
              refine W.no 0 100000 (by kernel_rfl) ?_
              refine W.no 0 100000 (by kernel_rfl) ?_
              exact W.retT 0 100000 h (by kernel_rfl)
          ·
            refine W.no 0 100000 (by kernel_rfl) ?_
            refine W.no 0 100000 (by kernel_rfl) ?_
            refine W.no 0 100000 (by kernel_rfl) ?_
            refine W.no 0 100000 (by kernel_rfl) ?_
            refine W.no 0 100000 (by kernel_rfl) ?_
            refine W.no 0 100000 (by kernel_rfl) ?_
            refine W.no 0 100000 (by kernel_rfl) ?_
            refine W.no 0 100000 (by kernel_rfl) ?_
            refine W.no 0 100000 (by kernel_rfl) ?_
            refine W.no 0 100000 (by kernel_rfl) ?_
            refine W.no 0 100000 (by kernel_rfl) ?_
            refine W.no 0 100000 (by kernel_rfl) ?_
            exact W.retT 0 100000 h (by kernel_rfl)
        ·
          refine W.no 0 100000 (by kernel_rfl) ?_
          refine W.no 0 100000 (by kernel_rfl) ?_
          refine W.no 0 100000 (by kernel_rfl) ?_
          refine W.no 0 100000 (by kernel_rfl) ?_
          refine W.no 0 100000 (by kernel_rfl) ?_
          refine W.no 0 100000 (by kernel_rfl) ?_
          refine W.no 0 100000 (by kernel_rfl) ?_
          refine W.no 0 100000 (by kernel_rfl) ?_
          refine W.no 0 100000 (by kernel_rfl) ?_
          refine W.no 0 100000 (by kernel_rfl) ?_
          refine W.no 0 100000 (by kernel_rfl) ?_
          refine W.no 0 100000 (by kernel_rfl) ?_
          refine W.no 0 100000 (by kernel_rfl) ?_
          refine W.no 0 100000 (by kernel_rfl) ?_
          refine W.no 0 100000 (by kernel_rfl) ?_
          refine W.no 0 100000 (by kernel_rfl) ?_
          refine W.no 0 100000 (by kernel_rfl) ?_
          refine W.no 0 100000 (by kernel_rfl) ?_
          refine W.no 0 100000 (by kernel_rfl) ?_
          refine W.no 0 100000 (by kernel_rfl) ?_
          exact W.retT 0 100000 h (by kernel_rfl)
      ·
        refine W.no 0 100000 (by kernel_rfl) ?_
        refine W.no 0 100000 (by kernel_rfl) ?_
        refine W.no 0 100000 (by kernel_rfl) ?_
        refine W.no 0 100000 (by kernel_rfl) ?_
        refine W.no 0 100000 (by kernel_rfl) ?_
        refine W.no 0 100000 (by kernel_rfl) ?_
        refine W.no 0 100000 (by kernel_rfl) ?_
        refine W.no 0 100000 (by kernel_rfl) ?_
        refine W.no 0 100000 (by kernel_rfl) ?_
        refine W.no 0 100000 (by kernel_rfl) ?_
        refine W.no 0 100000 (by kernel_rfl) ?_
        refine W.no 0 100000 (by kernel_rfl) ?_
        refine W.no 0 100000 (by kernel_rfl) ?_
        refine W.no 0 100000 (by kernel_rfl) ?_
        refine W.no 0 100000 (by kernel_rfl) ?_
        refine W.no 0 100000 (by kernel_rfl) ?_
        refine W.no 0 100000 (by kernel_rfl) ?_
        refine W.no 0 100000 (by kernel_rfl) ?_
        refine W.no 0 100000 (by kernel_rfl) ?_
        refine W.no 0 100000 (by kernel_rfl) ?_
        refine W.no 0 100000 (by kernel_rfl) ?_
        refine W.no 0 100000 (by kernel_rfl) ?_
        refine W.no 0 100000 (by kernel_rfl) ?_
        refine W.no 0 100000 (by kernel_rfl) ?_
        refine W.no 0 100000 (by kernel_rfl) ?_
        refine W.no 0 100000 (by kernel_rfl) ?_
        exact W.retT 0 100000 h (by kernel_rfl)
  · refine W.next 0 6 (by kernel_rfl) ?_
    refine W.bind h920 fun a_900 ha_900 h920 => ?_
    refine W.call 1 100000 (by kernel_rfl) (cellarerlaw13_Few_con ha_900) (by kernel_rfl) ?_
    refine W.cond 1 100000 h920 (by kernel_rfl) (fun h920 => ?_) (fun h920 => ?_)
    ·
      refine W.yes 1 100000 (by kernel_rfl) ?_
      refine W.yes 1 100000 (by kernel_rfl) ?_
      refine W.yes 1 100000 (by kernel_rfl) ?_
      refine W.yes 1 100000 (by kernel_rfl) ?_
      refine W.yes 1 100000 (by kernel_rfl) ?_
      refine W.yes 1 100000 (by kernel_rfl) ?_
      refine W.yes 1 100000 (by kernel_rfl) ?_
      refine W.yes 1 100000 (by kernel_rfl) ?_
      refine W.yes 1 100000 (by kernel_rfl) ?_
      refine W.bind h920 fun a_901 ha_901 h920 => ?_
      refine W.call 1 100000 (by kernel_rfl) (cellarerlaw13_awake_con ha_901) (by kernel_rfl) ?_
      cases h920; exact W.retK 1 100000 K920 (by kernel_rfl)
    ·
      refine W.no 1 100000 (by kernel_rfl) ?_
      refine W.no 1 100000 (by kernel_rfl) ?_
      refine W.bind h920 fun a_902 ha_902 h920 => ?_
      refine W.call 1 100000 (by kernel_rfl) (cellarerlaw13_Few_con ha_902) (by kernel_rfl) ?_
      refine W.no 1 100000 (by kernel_rfl) ?_
      refine W.no 1 100000 (by kernel_rfl) ?_
      refine W.cond 1 100000 h920 (by kernel_rfl) (fun h920 => ?_) (fun h920 => ?_)
      ·
        refine W.yes 1 100000 (by kernel_rfl) ?_
        refine W.yes 1 100000 (by kernel_rfl) ?_
        refine W.yes 1 100000 (by kernel_rfl) ?_
        refine W.yes 1 100000 (by kernel_rfl) ?_
        refine W.bind h920 fun a_903 ha_903 h920 => ?_
        refine W.call 1 100000 (by kernel_rfl) (cellarerlaw13_awake_con ha_903) (by kernel_rfl) ?_
        cases h920; exact W.retK 1 100000 K920 (by kernel_rfl)
      ·
        refine W.no 1 100000 (by kernel_rfl) ?_
        refine W.no 1 100000 (by kernel_rfl) ?_
        refine W.no 1 100000 (by kernel_rfl) ?_
        refine W.cond 1 100000 h920 (by kernel_rfl) (fun h920 => ?_) (fun h920 => ?_)
        ·
          refine W.bind h920 fun a_904 ha_904 h920 => ?_
          refine W.call 1 100000 (by kernel_rfl) (cellarerlaw13_awake_con ha_904) (by kernel_rfl) ?_
          cases h920; exact W.retK 1 100000 K920 (by kernel_rfl)
        ·
          cases h920; exact W.at 1 100000 [] [0, 2, 4] (by kernel_rfl) K920

end Go.Cellar
