/- What the program's functions come to: printed by a program, checked by Lean. No condition. -/
import Derived.Test.YtcbkbhmmehclmaaDoorCon5a
set_option maxRecDepth 4000
set_option linter.unusedVariables false
namespace Go.Cellar
open Go

theorem cellarerlaw05_VersionChains_con {a_585 : List UInt8} {b_586 : List UInt8} {c_587 : List UInt8} {r : Bool} (h : cellarerlaw05_VersionChains a_585 b_586 c_587 = some r) : Con Go.Proofs.Tryd.prog 6 [AV.str a_585, AV.str b_586, AV.str c_587] [] (cellarerlaw05_VersionChains_res r) (cellarerlaw05_VersionChains_out r) := by
  refine W.con (by kernel_rfl) ?_
  unfold cellarerlaw05_VersionChains at h
  refine W.join (fun t => (Sum.elim (fun t_592 => r = (t_592)) (fun t_593 => Walk Go.Proofs.Tryd.prog 6 (Cfg.mk Mode.run (seqTodo Go.Proofs.Tryd.prog 6 1) (St.mk [AV.str a_585, AV.str b_586, AV.str c_587, jj, jj, jj, jj, jj, jj, jj, jj, jj, jj, jj, jj, jj, jj, jj, jj, jj, jj, jj, jj, jj, jj, jj, jj, jj, jj, jj, jj, jj, jj, jj, jj, jj, jj, jj, jj, jj, jj, jj, jj, jj, jj, jj, jj, jj, jj, jj, jj, jj, jj, jj, jj, jj, jj, jj, jj, jj, jj, jj, jj, jj, jj, jj, jj, jj, jj, jj, jj, jj, jj] [] (0 : Nat))) (cellarerlaw05_VersionChains_res r) (cellarerlaw05_VersionChains_out r))) t) h (fun t h => ?_) (fun t640 h640 K640 => ?_)
  ·
    rcases t with t_592 | t_593
    · replace h := W.inl (h)
      refine W.elimL (?_)
      exact (Option.some.inj h).symm
    · replace h := W.inr (h)
      refine W.elimR (?_)
      refine W.bind h fun a_594 ha_594 h => ?_
      refine W.call 0 100000 (by kernel_rfl) (version_Compare_con ha_594) (by kernel_rfl) ?_
      refine W.bind h fun a_595 ha_595 h => ?_
      refine W.call 0 100000 (by kernel_rfl) (version_Compare_con ha_595) (by kernel_rfl) ?_
      refine W.bind h fun a_596 ha_596 h => ?_
      refine W.call 0 100000 (by kernel_rfl) (version_Compare_con ha_596) (by kernel_rfl) ?_
      refine W.cond 0 100000 h (by kernel_rfl) (fun h => ?_) (fun h => ?_)
      ·
        refine W.yes 0 100000 (by kernel_rfl) ?_
        refine W.yes 0 100000 (by kernel_rfl) ?_
        refine W.cond 0 100000 h (by kernel_rfl) (fun h => ?_) (fun h => ?_)
        ·
          refine W.yes 0 100000 (by kernel_rfl) ?_
          refine W.yes 0 100000 (by kernel_rfl) ?_
          refine W.cond 0 100000 h (by kernel_rfl) (fun h => ?_) (fun h => ?_)
          ·
            refine W.yes 0 100000 (by kernel_rfl) ?_
            refine W.yes 0 100000 (by kernel_rfl) ?_
            refine W.yes 0 100000 (by kernel_rfl) ?_
            refine W.yes 0 100000 (by kernel_rfl) ?_
            refine W.yes 0 100000 (by kernel_rfl) ?_
            refine W.yes 0 100000 (by kernel_rfl) ?_
            refine W.yes 0 100000 (by kernel_rfl) ?_
            refine W.yes 0 100000 (by kernel_rfl) ?_
            refine W.yes 0 100000 (by kernel_rfl) ?_
            refine W.yes 0 100000 (by kernel_rfl) ?_
            refine W.yes 0 100000 (by kernel_rfl) ?_
            refine W.yes 0 100000 (by kernel_rfl) ?_
            refine W.yes 0 100000 (by kernel_rfl) ?_
            refine W.yes 0 100000 (by kernel_rfl) ?_
            exact W.retT 0 100000 h (by kernel_rfl)
          ·
            refine W.no 0 100000 (by kernel_rfl) ?_
            refine W.no 0 100000 (by kernel_rfl) ?_
            refine W.cond 0 100000 h (by kernel_rfl) (fun h => ?_) (fun h => ?_)
            ·
              refine W.yes 0 100000 (by kernel_rfl) ?_
              refine W.yes 0 100000 (by kernel_rfl) ?_
              refine W.no 0 100000 (by kernel_rfl) ?_
              refine W.yes 0 100000 (by kernel_rfl) ?_
              refine W.no 0 100000 (by kernel_rfl) ?_
              refine W.cond 0 100000 h (by kernel_rfl) (fun h => ?_) (fun h => ?_)
              ·
                refine W.yes 0 100000 (by kernel_rfl) ?_
                refine W.yes 0 100000 (by kernel_rfl) ?_
                refine W.yes 0 100000 (by kernel_rfl) ?_
                refine W.yes 0 100000 (by kernel_rfl) ?_
                refine W.yes 0 100000 (by kernel_rfl) ?_
                refine W.yes 0 100000 (by kernel_rfl) ?_
                refine W.yes 0 100000 (by kernel_rfl) ?_
                refine W.yes 0 100000 (by kernel_rfl) ?_
                refine W.yes 0 100000 (by kernel_rfl) ?_
                exact W.retT 0 100000 h (by kernel_rfl)
              ·
                refine W.no 0 100000 (by kernel_rfl) ?_
                refine W.no 0 100000 (by kernel_rfl) ?_
                refine W.cond 0 100000 h (by kernel_rfl) (fun h => ?_) (fun h => ?_)
                ·
                  refine W.yes 0 100000 (by kernel_rfl) ?_
                  refine W.no 0 100000 (by kernel_rfl) ?_
                  refine W.yes 0 100000 (by kernel_rfl) ?_
                  refine W.no 0 100000 (by kernel_rfl) ?_
                  refine W.cond 0 100000 h (by kernel_rfl) (fun h => ?_) (fun h => ?_)
                  ·
                    refine W.yes 0 100000 (by kernel_rfl) ?_
                    refine W.yes 0 100000 (by kernel_rfl) ?_
                    refine W.yes 0 100000 (by kernel_rfl) ?_
                    refine W.no 0 100000 (by kernel_rfl) ?_
                    refine W.yes 0 100000 (by kernel_rfl) ?_
                    refine W.no 0 100000 (by kernel_rfl) ?_
                    refine W.yes 0 100000 (by kernel_rfl) ?_
                    refine W.yes 0 100000 (by kernel_rfl) ?_
                    refine W.no 0 100000 (by kernel_rfl) ?_
                    refine W.yes 0 100000 (by kernel_rfl) ?_
                    refine W.no 0 100000 (by kernel_rfl) ?_
                    refine W.cond 0 100000 h (by kernel_rfl) (fun h => ?_) (fun h => ?_)
                    ·
                      exact W.retT 0 100000 h (by kernel_rfl)
                    ·
                      refine W.bind h fun a_597 ha_597 h => ?_
                      refine W.call 0 100000 (by kernel_rfl) (cellarerlaw05_awake_con ha_597) (by kernel_rfl) ?_
                      exact W.retT 0 100000 h (by kernel_rfl)
                  ·
                    refine W.no 0 100000 (by kernel_rfl) ?_
                    refine W.no 0 100000 (by kernel_rfl) ?_
                    refine W.cond 0 100000 h (by kernel_rfl) (fun h => ?_) (fun h => ?_)
                    ·
                      refine W.yes 0 100000 (by kernel_rfl) ?_
                      refine W.no 0 100000 (by kernel_rfl) ?_
                      refine W.yes 0 100000 (by kernel_rfl) ?_
                      refine W.no 0 100000 (by kernel_rfl) ?_
                      refine W.no 0 100000 (by kernel_rfl) ?_
                      refine W.no 0 100000 (by kernel_rfl) ?_
                      refine W.cond 0 100000 h (by kernel_rfl) (fun h => ?_) (fun h => ?_)
                      ·
                        refine W.yes 0 100000 (by kernel_rfl) ?_
                        refine W.no 0 100000 (by kernel_rfl) ?_
                        refine W.yes 0 100000 (by kernel_rfl) ?_
                        refine W.no 0 100000 (by kernel_rfl) ?_
                        refine W.cond 0 100000 h (by kernel_rfl) (fun h => ?_) (fun h => ?_)
                        ·
                          exact W.retT 0 100000 h (by kernel_rfl)
                        ·
                          refine W.bind h fun a_598 ha_598 h => ?_
                          refine W.call 0 100000 (by kernel_rfl) (cellarerlaw05_awake_con ha_598) (by kernel_rfl) ?_
                          exact W.retT 0 100000 h (by kernel_rfl)
                      ·
                        refine W.no 0 100000 (by kernel_rfl) ?_
                        refine W.no 0 100000 (by kernel_rfl) ?_
                        refine W.no 0 100000 (by kernel_rfl) ?_
                        refine W.no 0 100000 (by kernel_rfl) ?_
                        refine W.no 0 100000 (by kernel_rfl) ?_
                        refine W.bind h fun a_599 ha_599 h => ?_
                        refine W.call 0 100000 (by kernel_rfl) (cellarerlaw05_awake_con ha_599) (by kernel_rfl) ?_
                        exact W.retT 0 100000 h (by kernel_rfl)
                    ·
                      refine W.no 0 100000 (by kernel_rfl) ?_
                      refine W.no 0 100000 (by kernel_rfl) ?_
                      refine W.no 0 100000 (by kernel_rfl) ?_
                      refine W.no 0 100000 (by kernel_rfl) ?_
                      refine W.no 0 100000 (by kernel_rfl) ?_
                      refine W.no 0 100000 (by kernel_rfl) ?_
                      refine W.no 0 100000 (by kernel_rfl) ?_
                      refine W.no 0 100000 (by kernel_rfl) ?_
                      refine W.no 0 100000 (by kernel_rfl) ?_
                      refine W.no 0 100000 (by kernel_rfl) ?_
                      refine W.no 0 100000 (by kernel_rfl) ?_
                      refine W.no 0 100000 (by kernel_rfl) ?_
                      refine W.bind h fun a_600 ha_600 h => ?_
                      refine W.call 0 100000 (by kernel_rfl) (cellarerlaw05_awake_con ha_600) (by kernel_rfl) ?_
                      exact W.retT 0 100000 h (by kernel_rfl)
                ·
                  refine W.no 0 100000 (by kernel_rfl) ?_
                  refine W.no 0 100000 (by kernel_rfl) ?_
                  refine W.no 0 100000 (by kernel_rfl) ?_
                  refine W.no 0 100000 (by kernel_rfl) ?_
                  refine W.no 0 100000 (by kernel_rfl) ?_
                  refine W.no 0 100000 (by kernel_rfl) ?_
                  refine W.no 0 100000 (by kernel_rfl) ?_
                  refine W.cond 0 100000 h (by kernel_rfl) (fun h => ?_) (fun h => ?_)
                  ·
                    refine W.yes 0 100000 (by kernel_rfl) ?_
                    refine W.no 0 100000 (by kernel_rfl) ?_
                    refine W.yes 0 100000 (by kernel_rfl) ?_
                    refine W.no 0 100000 (by kernel_rfl) ?_
                    refine W.no 0 100000 (by kernel_rfl) ?_
                    refine W.no 0 100000 (by kernel_rfl) ?_
                    refine W.cond 0 100000 h (by kernel_rfl) (fun h => ?_) (fun h => ?_)
                    ·
                      refine W.yes 0 100000 (by kernel_rfl) ?_
                      refine W.no 0 100000 (by kernel_rfl) ?_
                      refine W.yes 0 100000 (by kernel_rfl) ?_
                      refine W.no 0 100000 (by kernel_rfl) ?_
                      refine W.cond 0 100000 h (by kernel_rfl) (fun h => ?_) (fun h => ?_)
                      ·
                        exact W.retT 0 100000 h (by kernel_rfl)
                      ·
                        refine W.bind h fun a_601 ha_601 h => ?_
                        refine W.call 0 100000 (by kernel_rfl) (cellarerlaw05_awake_con ha_601) (by kernel_rfl) ?_
                        exact W.retT 0 100000 h (by kernel_rfl)
                    ·
                      refine W.no 0 100000 (by kernel_rfl) ?_
                      refine W.no 0 100000 (by kernel_rfl) ?_
                      refine W.no 0 100000 (by kernel_rfl) ?_
                      refine W.no 0 100000 (by kernel_rfl) ?_
                      refine W.no 0 100000 (by kernel_rfl) ?_
                      refine W.bind h fun a_602 ha_602 h => ?_
                      refine W.call 0 100000 (by kernel_rfl) (cellarerlaw05_awake_con ha_602) (by kernel_rfl) ?_
                      exact W.retT 0 100000 h (by kernel_rfl)
                  ·
                    refine W.no 0 100000 (by kernel_rfl) ?_
                    refine W.no 0 100000 (by kernel_rfl) ?_
                    refine W.no 0 100000 (by kernel_rfl) ?_
                    refine W.no 0 100000 (by kernel_rfl) ?_
                    refine W.no 0 100000 (by kernel_rfl) ?_
                    refine W.no 0 100000 (by kernel_rfl) ?_
                    refine W.no 0 100000 (by kernel_rfl) ?_
                    refine W.no 0 100000 (by kernel_rfl) ?_
                    refine W.no 0 100000 (by kernel_rfl) ?_
                    refine W.no 0 100000 (by kernel_rfl) ?_
                    refine W.no 0 100000 (by kernel_rfl) ?_
                    refine W.no 0 100000 (by kernel_rfl) ?_
                    refine W.bind h fun a_603 ha_603 h => ?_
                    refine W.call 0 100000 (by kernel_rfl) (cellarerlaw05_awake_con ha_603) (by kernel_rfl) ?_
                    exact W.retT 0 100000 h (by kernel_rfl)
            ·
              refine W.no 0 100000 (by kernel_rfl) ?_
              refine W.no 0 100000 (by kernel_rfl) ?_
              refine W.no 0 100000 (by kernel_rfl) ?_
              refine W.no 0 100000 (by kernel_rfl) ?_
              refine W.no 0 100000 (by kernel_rfl) ?_
              refine W.no 0 100000 (by kernel_rfl) ?_
              refine W.no 0 100000 (by kernel_rfl) ?_
              refine W.no 0 100000 (by kernel_rfl) ?_
              refine W.cond 0 100000 h (by kernel_rfl) (fun h => ?_) (fun h => ?_)
              ·
                refine W.yes 0 100000 (by kernel_rfl) ?_
                refine W.no 0 100000 (by kernel_rfl) ?_
                refine W.yes 0 100000 (by kernel_rfl) ?_
                refine W.no 0 100000 (by kernel_rfl) ?_
                refine W.cond 0 100000 h (by kernel_rfl) (fun h => ?_) (fun h => ?_)
                ·
                  refine W.yes 0 100000 (by kernel_rfl) ?_
                  refine W.yes 0 100000 (by kernel_rfl) ?_
                  refine W.yes 0 100000 (by kernel_rfl) ?_
                  refine W.no 0 100000 (by kernel_rfl) ?_
                  refine W.yes 0 100000 (by kernel_rfl) ?_
                  refine W.no 0 100000 (by kernel_rfl) ?_
                  refine W.yes 0 100000 (by kernel_rfl) ?_
                  refine W.yes 0 100000 (by kernel_rfl) ?_
                  refine W.no 0 100000 (by kernel_rfl) ?_
                  refine W.yes 0 100000 (by kernel_rfl) ?_
                  refine W.no 0 100000 (by kernel_rfl) ?_
                  refine W.cond 0 100000 h (by kernel_rfl) (fun h => ?_) (fun h => ?_)
                  ·
                    exact W.retT 0 100000 h (by kernel_rfl)
                  ·
                    refine W.bind h fun a_604 ha_604 h => ?_
                    refine W.call 0 100000 (by kernel_rfl) (cellarerlaw05_awake_con ha_604) (by kernel_rfl) ?_
                    exact W.retT 0 100000 h (by kernel_rfl)
                ·
                  refine W.no 0 100000 (by kernel_rfl) ?_
                  refine W.no 0 100000 (by kernel_rfl) ?_
                  refine W.cond 0 100000 h (by kernel_rfl) (fun h => ?_) (fun h => ?_)
                  ·
                    refine W.yes 0 100000 (by kernel_rfl) ?_
                    refine W.no 0 100000 (by kernel_rfl) ?_
                    refine W.yes 0 100000 (by kernel_rfl) ?_
                    refine W.no 0 100000 (by kernel_rfl) ?_
                    refine W.no 0 100000 (by kernel_rfl) ?_
                    refine W.no 0 100000 (by kernel_rfl) ?_
                    refine W.cond 0 100000 h (by kernel_rfl) (fun h => ?_) (fun h => ?_)
                    ·
                      refine W.yes 0 100000 (by kernel_rfl) ?_
                      refine W.no 0 100000 (by kernel_rfl) ?_
                      refine W.yes 0 100000 (by kernel_rfl) ?_
                      refine W.no 0 100000 (by kernel_rfl) ?_
                      refine W.cond 0 100000 h (by kernel_rfl) (fun h => ?_) (fun h => ?_)
                      ·
                        exact W.retT 0 100000 h (by kernel_rfl)
                      ·
                        refine W.bind h fun a_605 ha_605 h => ?_
                        refine W.call 0 100000 (by kernel_rfl) (cellarerlaw05_awake_con ha_605) (by kernel_rfl) ?_
                        exact W.retT 0 100000 h (by kernel_rfl)
                    ·
                      refine W.no 0 100000 (by kernel_rfl) ?_
                      refine W.no 0 100000 (by kernel_rfl) ?_
                      refine W.no 0 100000 (by kernel_rfl) ?_
                      refine W.no 0 100000 (by kernel_rfl) ?_
                      refine W.no 0 100000 (by kernel_rfl) ?_
                      refine W.bind h fun a_606 ha_606 h => ?_
                      refine W.call 0 100000 (by kernel_rfl) (cellarerlaw05_awake_con ha_606) (by kernel_rfl) ?_
                      exact W.retT 0 100000 h (by kernel_rfl)
                  ·
                    refine W.no 0 100000 (by kernel_rfl) ?_
                    refine W.no 0 100000 (by kernel_rfl) ?_
                    refine W.no 0 100000 (by kernel_rfl) ?_
                    refine W.no 0 100000 (by kernel_rfl) ?_
                    refine W.no 0 100000 (by kernel_rfl) ?_
                    refine W.no 0 100000 (by kernel_rfl) ?_
                    refine W.no 0 100000 (by kernel_rfl) ?_
                    refine W.no 0 100000 (by kernel_rfl) ?_
                    refine W.no 0 100000 (by kernel_rfl) ?_
                    refine W.no 0 100000 (by kernel_rfl) ?_
                    refine W.no 0 100000 (by kernel_rfl) ?_
                    refine W.no 0 100000 (by kernel_rfl) ?_
                    refine W.bind h fun a_607 ha_607 h => ?_
                    refine W.call 0 100000 (by kernel_rfl) (cellarerlaw05_awake_con ha_607) (by kernel_rfl) ?_
                    exact W.retT 0 100000 h (by kernel_rfl)
              ·
                refine W.no 0 100000 (by kernel_rfl) ?_
                refine W.no 0 100000 (by kernel_rfl) ?_
                refine W.no 0 100000 (by kernel_rfl) ?_
                refine W.no 0 100000 (by kernel_rfl) ?_
                refine W.no 0 100000 (by kernel_rfl) ?_
                refine W.no 0 100000 (by kernel_rfl) ?_
                refine W.no 0 100000 (by kernel_rfl) ?_
                refine W.cond 0 100000 h (by kernel_rfl) (fun h => ?_) (fun h => ?_)
                ·
                  refine W.yes 0 100000 (by kernel_rfl) ?_
                  refine W.no 0 100000 (by kernel_rfl) ?_
                  refine W.yes 0 100000 (by kernel_rfl) ?_
                  refine W.no 0 100000 (by kernel_rfl) ?_
                  refine W.no 0 100000 (by kernel_rfl) ?_
                  refine W.no 0 100000 (by kernel_rfl) ?_
                  refine W.cond 0 100000 h (by kernel_rfl) (fun h => ?_) (fun h => ?_)
                  ·
                    refine W.yes 0 100000 (by kernel_rfl) ?_
                    refine W.no 0 100000 (by kernel_rfl) ?_
                    refine W.yes 0 100000 (by kernel_rfl) ?_
                    refine W.no 0 100000 (by kernel_rfl) ?_
                    refine W.cond 0 100000 h (by kernel_rfl) (fun h => ?_) (fun h => ?_)
                    ·
                      exact W.retT 0 100000 h (by kernel_rfl)
                    ·
                      refine W.bind h fun a_608 ha_608 h => ?_
                      refine W.call 0 100000 (by kernel_rfl) (cellarerlaw05_awake_con ha_608) (by kernel_rfl) ?_
                      exact W.retT 0 100000 h (by kernel_rfl)
                  ·
                    refine W.no 0 100000 (by kernel_rfl) ?_
                    refine W.no 0 100000 (by kernel_rfl) ?_
                    refine W.no 0 100000 (by kernel_rfl) ?_
                    refine W.no 0 100000 (by kernel_rfl) ?_
                    refine W.no 0 100000 (by kernel_rfl) ?_
                    refine W.bind h fun a_609 ha_609 h => ?_
                    refine W.call 0 100000 (by kernel_rfl) (cellarerlaw05_awake_con ha_609) (by kernel_rfl) ?_
                    exact W.retT 0 100000 h (by kernel_rfl)
                ·
                  refine W.no 0 100000 (by kernel_rfl) ?_
                  refine W.no 0 100000 (by kernel_rfl) ?_
                  refine W.no 0 100000 (by kernel_rfl) ?_
                  refine W.no 0 100000 (by kernel_rfl) ?_
                  refine W.no 0 100000 (by kernel_rfl) ?_
                  refine W.no 0 100000 (by kernel_rfl) ?_
                  refine W.no 0 100000 (by kernel_rfl) ?_
                  refine W.no 0 100000 (by kernel_rfl) ?_
                  refine W.no 0 100000 (by kernel_rfl) ?_
                  refine W.no 0 100000 (by kernel_rfl) ?_
                  refine W.no 0 100000 (by kernel_rfl) ?_
                  refine W.no 0 100000 (by kernel_rfl) ?_
                  refine W.bind h fun a_610 ha_610 h => ?_
                  refine W.call 0 100000 (by kernel_rfl) (cellarerlaw05_awake_con ha_610) (by kernel_rfl) ?_
                  exact W.retT 0 100000 h (by kernel_rfl)
        ·
          refine W.no 0 100000 (by kernel_rfl) ?_
          refine W.no 0 100000 (by kernel_rfl) ?_
          refine W.no 0 100000 (by kernel_rfl) ?_
          refine W.no 0 100000 (by kernel_rfl) ?_
          refine W.no 0 100000 (by kernel_rfl) ?_
          refine W.cond 0 100000 h (by kernel_rfl) (fun h => ?_) (fun h => ?_)
          ·
            refine W.yes 0 100000 (by kernel_rfl) ?_
            refine W.yes 0 100000 (by kernel_rfl) ?_
            refine W.no 0 100000 (by kernel_rfl) ?_
            refine W.yes 0 100000 (by kernel_rfl) ?_
            refine W.no 0 100000 (by kernel_rfl) ?_
            refine W.cond 0 100000 h (by kernel_rfl) (fun h => ?_) (fun h => ?_)
            ·
              refine W.yes 0 100000 (by kernel_rfl) ?_
              refine W.yes 0 100000 (by kernel_rfl) ?_
              refine W.yes 0 100000 (by kernel_rfl) ?_
              refine W.yes 0 100000 (by kernel_rfl) ?_
              refine W.yes 0 100000 (by kernel_rfl) ?_
              refine W.yes 0 100000 (by kernel_rfl) ?_
              refine W.yes 0 100000 (by kernel_rfl) ?_
              refine W.yes 0 100000 (by kernel_rfl) ?_
              refine W.yes 0 100000 (by kernel_rfl) ?_
              exact W.retT 0 100000 h (by kernel_rfl)
            ·
              refine W.no 0 100000 (by kernel_rfl) ?_
              refine W.no 0 100000 (by kernel_rfl) ?_
              refine W.cond 0 100000 h (by kernel_rfl) (fun h => ?_) (fun h => ?_)
              ·
                refine W.yes 0 100000 (by kernel_rfl) ?_
                refine W.no 0 100000 (by kernel_rfl) ?_
                refine W.yes 0 100000 (by kernel_rfl) ?_
                refine W.no 0 100000 (by kernel_rfl) ?_
                refine W.cond 0 100000 h (by kernel_rfl) (fun h => ?_) (fun h => ?_)
                ·
                  refine W.yes 0 100000 (by kernel_rfl) ?_
                  refine W.yes 0 100000 (by kernel_rfl) ?_
                  refine W.yes 0 100000 (by kernel_rfl) ?_
                  refine W.no 0 100000 (by kernel_rfl) ?_
                  refine W.yes 0 100000 (by kernel_rfl) ?_
                  refine W.no 0 100000 (by kernel_rfl) ?_
                  refine W.yes 0 100000 (by kernel_rfl) ?_
                  refine W.yes 0 100000 (by kernel_rfl) ?_
                  refine W.no 0 100000 (by kernel_rfl) ?_
                  refine W.yes 0 100000 (by kernel_rfl) ?_
                  refine W.no 0 100000 (by kernel_rfl) ?_
                  refine W.cond 0 100000 h (by kernel_rfl) (fun h => ?_) (fun h => ?_)
                  ·
                    exact W.retT 0 100000 h (by kernel_rfl)
                  ·
                    refine W.bind h fun a_611 ha_611 h => ?_
                    refine W.call 0 100000 (by kernel_rfl) (cellarerlaw05_awake_con ha_611) (by kernel_rfl) ?_
                    exact W.retT 0 100000 h (by kernel_rfl)
                ·
                  refine W.no 0 100000 (by kernel_rfl) ?_
                  refine W.no 0 100000 (by kernel_rfl) ?_
                  refine W.cond 0 100000 h (by kernel_rfl) (fun h => ?_) (fun h => ?_)
                  ·
                    refine W.yes 0 100000 (by kernel_rfl) ?_
                    refine W.no 0 100000 (by kernel_rfl) ?_
                    refine W.yes 0 100000 (by kernel_rfl) ?_
                    refine W.no 0 100000 (by kernel_rfl) ?_
                    refine W.no 0 100000 (by kernel_rfl) ?_
                    refine W.no 0 100000 (by kernel_rfl) ?_
                    refine W.cond 0 100000 h (by kernel_rfl) (fun h => ?_) (fun h => ?_)
                    ·
                      refine W.yes 0 100000 (by kernel_rfl) ?_
                      refine W.no 0 100000 (by kernel_rfl) ?_
                      refine W.yes 0 100000 (by kernel_rfl) ?_
                      refine W.no 0 100000 (by kernel_rfl) ?_
                      refine W.cond 0 100000 h (by kernel_rfl) (fun h => ?_) (fun h => ?_)
                      ·
                        exact W.retT 0 100000 h (by kernel_rfl)
                      ·
                        refine W.bind h fun a_612 ha_612 h => ?_
                        refine W.call 0 100000 (by kernel_rfl) (cellarerlaw05_awake_con ha_612) (by kernel_rfl) ?_
                        exact W.retT 0 100000 h (by kernel_rfl)
                    ·
                      refine W.no 0 100000 (by kernel_rfl) ?_
                      refine W.no 0 100000 (by kernel_rfl) ?_
                      refine W.no 0 100000 (by kernel_rfl) ?_
                      refine W.no 0 100000 (by kernel_rfl) ?_
                      refine W.no 0 100000 (by kernel_rfl) ?_
                      refine W.bind h fun a_613 ha_613 h => ?_
                      refine W.call 0 100000 (by kernel_rfl) (cellarerlaw05_awake_con ha_613) (by kernel_rfl) ?_
                      exact W.retT 0 100000 h (by kernel_rfl)
                  ·
                    refine W.no 0 100000 (by kernel_rfl) ?_
                    refine W.no 0 100000 (by kernel_rfl) ?_
                    refine W.no 0 100000 (by kernel_rfl) ?_
                    refine W.no 0 100000 (by kernel_rfl) ?_
                    refine W.no 0 100000 (by kernel_rfl) ?_
                    refine W.no 0 100000 (by kernel_rfl) ?_
                    refine W.no 0 100000 (by kernel_rfl) ?_
                    refine W.no 0 100000 (by kernel_rfl) ?_
                    refine W.no 0 100000 (by kernel_rfl) ?_
                    refine W.no 0 100000 (by kernel_rfl) ?_
                    refine W.no 0 100000 (by kernel_rfl) ?_
                    refine W.no 0 100000 (by kernel_rfl) ?_
                    refine W.bind h fun a_614 ha_614 h => ?_
                    refine W.call 0 100000 (by kernel_rfl) (cellarerlaw05_awake_con ha_614) (by kernel_rfl) ?_
                    exact W.retT 0 100000 h (by kernel_rfl)
              ·
                refine W.no 0 100000 (by kernel_rfl) ?_
                refine W.no 0 100000 (by kernel_rfl) ?_
                refine W.no 0 100000 (by kernel_rfl) ?_
                refine W.no 0 100000 (by kernel_rfl) ?_
                refine W.no 0 100000 (by kernel_rfl) ?_
                refine W.no 0 100000 (by kernel_rfl) ?_
                refine W.no 0 100000 (by kernel_rfl) ?_
                refine W.cond 0 100000 h (by kernel_rfl) (fun h => ?_) (fun h => ?_)
                ·
                  refine W.yes 0 100000 (by kernel_rfl) ?_
                  refine W.no 0 100000 (by kernel_rfl) ?_
                  refine W.yes 0 100000 (by kernel_rfl) ?_
                  refine W.no 0 100000 (by kernel_rfl) ?_
                  refine W.no 0 100000 (by kernel_rfl) ?_
                  refine W.no 0 100000 (by kernel_rfl) ?_
                  refine W.cond 0 100000 h (by kernel_rfl) (fun h => ?_) (fun h => ?_)
                  ·
                    refine W.yes 0 100000 (by kernel_rfl) ?_
                    refine W.no 0 100000 (by kernel_rfl) ?_
                    refine W.yes 0 100000 (by kernel_rfl) ?_
                    refine W.no 0 100000 (by kernel_rfl) ?_
                    refine W.cond 0 100000 h (by kernel_rfl) (fun h => ?_) (fun h => ?_)
                    ·
                      exact W.retT 0 100000 h (by kernel_rfl)
                    ·
                      refine W.bind h fun a_615 ha_615 h => ?_
                      refine W.call 0 100000 (by kernel_rfl) (cellarerlaw05_awake_con ha_615) (by kernel_rfl) ?_
                      exact W.retT 0 100000 h (by kernel_rfl)
                  ·
                    refine W.no 0 100000 (by kernel_rfl) ?_
                    refine W.no 0 100000 (by kernel_rfl) ?_
                    refine W.no 0 100000 (by kernel_rfl) ?_
                    refine W.no 0 100000 (by kernel_rfl) ?_
                    refine W.no 0 100000 (by kernel_rfl) ?_
                    refine W.bind h fun a_616 ha_616 h => ?_
                    refine W.call 0 100000 (by kernel_rfl) (cellarerlaw05_awake_con ha_616) (by kernel_rfl) ?_
                    exact W.retT 0 100000 h (by kernel_rfl)
                ·
                  refine W.no 0 100000 (by kernel_rfl) ?_
                  refine W.no 0 100000 (by kernel_rfl) ?_
                  refine W.no 0 100000 (by kernel_rfl) ?_
                  refine W.no 0 100000 (by kernel_rfl) ?_
                  refine W.no 0 100000 (by kernel_rfl) ?_
                  refine W.no 0 100000 (by kernel_rfl) ?_
                  refine W.no 0 100000 (by kernel_rfl) ?_
                  refine W.no 0 100000 (by kernel_rfl) ?_
                  refine W.no 0 100000 (by kernel_rfl) ?_
                  refine W.no 0 100000 (by kernel_rfl) ?_
                  refine W.no 0 100000 (by kernel_rfl) ?_
                  refine W.no 0 100000 (by kernel_rfl) ?_
                  refine W.bind h fun a_617 ha_617 h => ?_
                  refine W.call 0 100000 (by kernel_rfl) (cellarerlaw05_awake_con ha_617) (by kernel_rfl) ?_
                  exact W.retT 0 100000 h (by kernel_rfl)
          ·
            refine W.no 0 100000 (by kernel_rfl) ?_
            refine W.no 0 100000 (by kernel_rfl) ?_
            refine W.no 0 100000 (by kernel_rfl) ?_
            refine W.no 0 100000 (by kernel_rfl) ?_
            refine W.no 0 100000 (by kernel_rfl) ?_
            refine W.no 0 100000 (by kernel_rfl) ?_
            refine W.no 0 100000 (by kernel_rfl) ?_
            refine W.no 0 100000 (by kernel_rfl) ?_
            refine W.cond 0 100000 h (by kernel_rfl) (fun h => ?_) (fun h => ?_)
            ·
              refine W.yes 0 100000 (by kernel_rfl) ?_
              refine W.no 0 100000 (by kernel_rfl) ?_
              refine W.yes 0 100000 (by kernel_rfl) ?_
              refine W.no 0 100000 (by kernel_rfl) ?_
              refine W.cond 0 100000 h (by kernel_rfl) (fun h => ?_) (fun h => ?_)
              ·
                refine W.yes 0 100000 (by kernel_rfl) ?_
                refine W.yes 0 100000 (by kernel_rfl) ?_
                refine W.yes 0 100000 (by kernel_rfl) ?_
                refine W.no 0 100000 (by kernel_rfl) ?_
                refine W.yes 0 100000 (by kernel_rfl) ?_
                refine W.no 0 100000 (by kernel_rfl) ?_
                refine W.yes 0 100000 (by kernel_rfl) ?_
                refine W.yes 0 100000 (by kernel_rfl) ?_
                refine W.no 0 100000 (by kernel_rfl) ?_
                refine W.yes 0 100000 (by kernel_rfl) ?_
                refine W.no 0 100000 (by kernel_rfl) ?_
                refine W.cond 0 100000 h (by kernel_rfl) (fun h => ?_) (fun h => ?_)
                ·
                  exact W.retT 0 100000 h (by kernel_rfl)
                ·
                  refine W.bind h fun a_618 ha_618 h => ?_
                  refine W.call 0 100000 (by kernel_rfl) (cellarerlaw05_awake_con ha_618) (by kernel_rfl) ?_
                  exact W.retT 0 100000 h (by kernel_rfl)
              ·
                refine W.no 0 100000 (by kernel_rfl) ?_
                refine W.no 0 100000 (by kernel_rfl) ?_
                refine W.cond 0 100000 h (by kernel_rfl) (fun h => ?_) (fun h => ?_)
                ·
                  refine W.yes 0 100000 (by kernel_rfl) ?_
                  refine W.no 0 100000 (by kernel_rfl) ?_
                  refine W.yes 0 100000 (by kernel_rfl) ?_
                  refine W.no 0 100000 (by kernel_rfl) ?_
                  refine W.no 0 100000 (by kernel_rfl) ?_
                  refine W.no 0 100000 (by kernel_rfl) ?_
                  refine W.cond 0 100000 h (by kernel_rfl) (fun h => ?_) (fun h => ?_)
                  ·
                    refine W.yes 0 100000 (by kernel_rfl) ?_
                    refine W.no 0 100000 (by kernel_rfl) ?_
                    refine W.yes 0 100000 (by kernel_rfl) ?_
                    refine W.no 0 100000 (by kernel_rfl) ?_
                    refine W.cond 0 100000 h (by kernel_rfl) (fun h => ?_) (fun h => ?_)
                    ·
                      exact W.retT 0 100000 h (by kernel_rfl)
                    ·
                      refine W.bind h fun a_619 ha_619 h => ?_
                      refine W.call 0 100000 (by kernel_rfl) (cellarerlaw05_awake_con ha_619) (by kernel_rfl) ?_
                      exact W.retT 0 100000 h (by kernel_rfl)
                  ·
                    refine W.no 0 100000 (by kernel_rfl) ?_
                    refine W.no 0 100000 (by kernel_rfl) ?_
                    refine W.no 0 100000 (by kernel_rfl) ?_
                    refine W.no 0 100000 (by kernel_rfl) ?_
                    refine W.no 0 100000 (by kernel_rfl) ?_
                    refine W.bind h fun a_620 ha_620 h => ?_
                    refine W.call 0 100000 (by kernel_rfl) (cellarerlaw05_awake_con ha_620) (by kernel_rfl) ?_
                    exact W.retT 0 100000 h (by kernel_rfl)
                ·
                  refine W.no 0 100000 (by kernel_rfl) ?_
                  refine W.no 0 100000 (by kernel_rfl) ?_
                  refine W.no 0 100000 (by kernel_rfl) ?_
                  refine W.no 0 100000 (by kernel_rfl) ?_
                  refine W.no 0 100000 (by kernel_rfl) ?_
                  refine W.no 0 100000 (by kernel_rfl) ?_
                  refine W.no 0 100000 (by kernel_rfl) ?_
                  refine W.no 0 100000 (by kernel_rfl) ?_
                  refine W.no 0 100000 (by kernel_rfl) ?_
                  refine W.no 0 100000 (by kernel_rfl) ?_
                  refine W.no 0 100000 (by kernel_rfl) ?_
                  refine W.no 0 100000 (by kernel_rfl) ?_
                  refine W.bind h fun a_621 ha_621 h => ?_
                  refine W.call 0 100000 (by kernel_rfl) (cellarerlaw05_awake_con ha_621) (by kernel_rfl) ?_
                  exact W.retT 0 100000 h (by kernel_rfl)
            ·
              refine W.no 0 100000 (by kernel_rfl) ?_
              refine W.no 0 100000 (by kernel_rfl) ?_
              refine W.no 0 100000 (by kernel_rfl) ?_
              refine W.no 0 100000 (by kernel_rfl) ?_
              refine W.no 0 100000 (by kernel_rfl) ?_
              refine W.no 0 100000 (by kernel_rfl) ?_
              refine W.no 0 100000 (by kernel_rfl) ?_
              refine W.cond 0 100000 h (by kernel_rfl) (fun h => ?_) (fun h => ?_)
              ·
                refine W.yes 0 100000 (by kernel_rfl) ?_
                refine W.no 0 100000 (by kernel_rfl) ?_
                refine W.yes 0 100000 (by kernel_rfl) ?_
                refine W.no 0 100000 (by kernel_rfl) ?_
                refine W.no 0 100000 (by kernel_rfl) ?_
                refine W.no 0 100000 (by kernel_rfl) ?_
                refine W.cond 0 100000 h (by kernel_rfl) (fun h => ?_) (fun h => ?_)
                ·
                  refine W.yes 0 100000 (by kernel_rfl) ?_
                  refine W.no 0 100000 (by kernel_rfl) ?_
                  refine W.yes 0 100000 (by kernel_rfl) ?_
                  refine W.no 0 100000 (by kernel_rfl) ?_
                  refine W.cond 0 100000 h (by kernel_rfl) (fun h => ?_) (fun h => ?_)
                  ·
                    exact W.retT 0 100000 h (by kernel_rfl)
                  ·
                    refine W.bind h fun a_622 ha_622 h => ?_
                    refine W.call 0 100000 (by kernel_rfl) (cellarerlaw05_awake_con ha_622) (by kernel_rfl) ?_
                    exact W.retT 0 100000 h (by kernel_rfl)
                ·
                  refine W.no 0 100000 (by kernel_rfl) ?_
                  refine W.no 0 100000 (by kernel_rfl) ?_
                  refine W.no 0 100000 (by kernel_rfl) ?_
                  refine W.no 0 100000 (by kernel_rfl) ?_
                  refine W.no 0 100000 (by kernel_rfl) ?_
                  refine W.bind h fun a_623 ha_623 h => ?_
                  refine W.call 0 100000 (by kernel_rfl) (cellarerlaw05_awake_con ha_623) (by kernel_rfl) ?_
                  exact W.retT 0 100000 h (by kernel_rfl)
              ·
                refine W.no 0 100000 (by kernel_rfl) ?_
                refine W.no 0 100000 (by kernel_rfl) ?_
                refine W.no 0 100000 (by kernel_rfl) ?_
                refine W.no 0 100000 (by kernel_rfl) ?_
                refine W.no 0 100000 (by kernel_rfl) ?_
                refine W.no 0 100000 (by kernel_rfl) ?_
                refine W.no 0 100000 (by kernel_rfl) ?_
                refine W.no 0 100000 (by kernel_rfl) ?_
                refine W.no 0 100000 (by kernel_rfl) ?_
                refine W.no 0 100000 (by kernel_rfl) ?_
                refine W.no 0 100000 (by kernel_rfl) ?_
                refine W.no 0 100000 (by kernel_rfl) ?_
                refine W.bind h fun a_624 ha_624 h => ?_
                refine W.call 0 100000 (by kernel_rfl) (cellarerlaw05_awake_con ha_624) (by kernel_rfl) ?_
                exact W.retT 0 100000 h (by kernel_rfl)
      ·
        refine W.no 0 100000 (by kernel_rfl) ?_
        refine W.no 0 100000 (by kernel_rfl) ?_
        refine W.no 0 100000 (by kernel_rfl) ?_
        refine W.no 0 100000 (by kernel_rfl) ?_
        refine W.no 0 100000 (by kernel_rfl) ?_
        refine W.no 0 100000 (by kernel_rfl) ?_
        refine W.no 0 100000 (by kernel_rfl) ?_
        refine W.no 0 100000 (by kernel_rfl) ?_
        refine W.cond 0 100000 h (by kernel_rfl) (fun h => ?_) (fun h => ?_)
        ·
          refine W.yes 0 100000 (by kernel_rfl) ?_
          refine W.yes 0 100000 (by kernel_rfl) ?_
          refine W.no 0 100000 (by kernel_rfl) ?_
          refine W.yes 0 100000 (by kernel_rfl) ?_
          refine W.no 0 100000 (by kernel_rfl) ?_
          refine W.cond 0 100000 h (by kernel_rfl) (fun h => ?_) (fun h => ?_)
          ·
            refine W.yes 0 100000 (by kernel_rfl) ?_
            refine W.yes 0 100000 (by kernel_rfl) ?_
            refine W.yes 0 100000 (by kernel_rfl) ?_
            refine W.yes 0 100000 (by kernel_rfl) ?_
            refine W.yes 0 100000 (by kernel_rfl) ?_
            refine W.yes 0 100000 (by kernel_rfl) ?_
            refine W.yes 0 100000 (by kernel_rfl) ?_
            refine W.yes 0 100000 (by kernel_rfl) ?_
            refine W.yes 0 100000 (by kernel_rfl) ?_
            exact W.retT 0 100000 h (by kernel_rfl)
          ·
            refine W.no 0 100000 (by kernel_rfl) ?_
            refine W.no 0 100000 (by kernel_rfl) ?_
            refine W.cond 0 100000 h (by kernel_rfl) (fun h => ?_) (fun h => ?_)
            ·
              refine W.yes 0 100000 (by kernel_rfl) ?_
              refine W.no 0 100000 (by kernel_rfl) ?_
              refine W.yes 0 100000 (by kernel_rfl) ?_
              refine W.no 0 100000 (by kernel_rfl) ?_
              refine W.cond 0 100000 h (by kernel_rfl) (fun h => ?_) (fun h => ?_)
              ·
                refine W.yes 0 100000 (by kernel_rfl) ?_
                refine W.yes 0 100000 (by kernel_rfl) ?_
                refine W.yes 0 100000 (by kernel_rfl) ?_
                refine W.no 0 100000 (by kernel_rfl) ?_
                refine W.yes 0 100000 (by kernel_rfl) ?_
                refine W.no 0 100000 (by kernel_rfl) ?_
                refine W.yes 0 100000 (by kernel_rfl) ?_
                refine W.yes 0 100000 (by kernel_rfl) ?_
                refine W.no 0 100000 (by kernel_rfl) ?_
                refine W.yes 0 100000 (by kernel_rfl) ?_
                refine W.no 0 100000 (by kernel_rfl) ?_
                refine W.cond 0 100000 h (by kernel_rfl) (fun h => ?_) (fun h => ?_)
                ·
                  exact W.retT 0 100000 h (by kernel_rfl)
                ·
                  refine W.bind h fun a_625 ha_625 h => ?_
                  refine W.call 0 100000 (by kernel_rfl) (cellarerlaw05_awake_con ha_625) (by kernel_rfl) ?_
                  exact W.retT 0 100000 h (by kernel_rfl)
              ·
                refine W.no 0 100000 (by kernel_rfl) ?_
                refine W.no 0 100000 (by kernel_rfl) ?_
                refine W.cond 0 100000 h (by kernel_rfl) (fun h => ?_) (fun h => ?_)
                ·
                  refine W.yes 0 100000 (by kernel_rfl) ?_
                  refine W.no 0 100000 (by kernel_rfl) ?_
                  refine W.yes 0 100000 (by kernel_rfl) ?_
                  refine W.no 0 100000 (by kernel_rfl) ?_
                  refine W.no 0 100000 (by kernel_rfl) ?_
                  refine W.no 0 100000 (by kernel_rfl) ?_
                  refine W.cond 0 100000 h (by kernel_rfl) (fun h => ?_) (fun h => ?_)
                  ·
                    refine W.yes 0 100000 (by kernel_rfl) ?_
                    refine W.no 0 100000 (by kernel_rfl) ?_
                    refine W.yes 0 100000 (by kernel_rfl) ?_
                    refine W.no 0 100000 (by kernel_rfl) ?_
                    refine W.cond 0 100000 h (by kernel_rfl) (fun h => ?_) (fun h => ?_)
                    ·
                      exact W.retT 0 100000 h (by kernel_rfl)
                    ·
                      refine W.bind h fun a_626 ha_626 h => ?_
                      refine W.call 0 100000 (by kernel_rfl) (cellarerlaw05_awake_con ha_626) (by kernel_rfl) ?_
                      exact W.retT 0 100000 h (by kernel_rfl)
                  ·
                    refine W.no 0 100000 (by kernel_rfl) ?_
                    refine W.no 0 100000 (by kernel_rfl) ?_
                    refine W.no 0 100000 (by kernel_rfl) ?_
                    refine W.no 0 100000 (by kernel_rfl) ?_
                    refine W.no 0 100000 (by kernel_rfl) ?_
                    refine W.bind h fun a_627 ha_627 h => ?_
                    refine W.call 0 100000 (by kernel_rfl) (cellarerlaw05_awake_con ha_627) (by kernel_rfl) ?_
                    exact W.retT 0 100000 h (by kernel_rfl)
                ·
                  refine W.no 0 100000 (by kernel_rfl) ?_
                  refine W.no 0 100000 (by kernel_rfl) ?_
                  refine W.no 0 100000 (by kernel_rfl) ?_
                  refine W.no 0 100000 (by kernel_rfl) ?_
                  refine W.no 0 100000 (by kernel_rfl) ?_
                  refine W.no 0 100000 (by kernel_rfl) ?_
                  refine W.no 0 100000 (by kernel_rfl) ?_
                  refine W.no 0 100000 (by kernel_rfl) ?_
                  refine W.no 0 100000 (by kernel_rfl) ?_
                  refine W.no 0 100000 (by kernel_rfl) ?_
                  refine W.no 0 100000 (by kernel_rfl) ?_
                  refine W.no 0 100000 (by kernel_rfl) ?_
                  refine W.bind h fun a_628 ha_628 h => ?_
                  refine W.call 0 100000 (by kernel_rfl) (cellarerlaw05_awake_con ha_628) (by kernel_rfl) ?_
                  exact W.retT 0 100000 h (by kernel_rfl)
            ·
              refine W.no 0 100000 (by kernel_rfl) ?_
              refine W.no 0 100000 (by kernel_rfl) ?_
              refine W.no 0 100000 (by kernel_rfl) ?_
              refine W.no 0 100000 (by kernel_rfl) ?_
              refine W.no 0 100000 (by kernel_rfl) ?_
              refine W.no 0 100000 (by kernel_rfl) ?_
              refine W.no 0 100000 (by kernel_rfl) ?_
              refine W.cond 0 100000 h (by kernel_rfl) (fun h => ?_) (fun h => ?_)
              ·
                refine W.yes 0 100000 (by kernel_rfl) ?_
                refine W.no 0 100000 (by kernel_rfl) ?_
                refine W.yes 0 100000 (by kernel_rfl) ?_
                refine W.no 0 100000 (by kernel_rfl) ?_
                refine W.no 0 100000 (by kernel_rfl) ?_
                refine W.no 0 100000 (by kernel_rfl) ?_
                refine W.cond 0 100000 h (by kernel_rfl) (fun h => ?_) (fun h => ?_)
                ·
                  refine W.yes 0 100000 (by kernel_rfl) ?_
                  refine W.no 0 100000 (by kernel_rfl) ?_
                  refine W.yes 0 100000 (by kernel_rfl) ?_
                  refine W.no 0 100000 (by kernel_rfl) ?_
                  refine W.cond 0 100000 h (by kernel_rfl) (fun h => ?_) (fun h => ?_)
                  ·
                    exact W.retT 0 100000 h (by kernel_rfl)
                  ·
                    refine W.bind h fun a_629 ha_629 h => ?_
                    refine W.call 0 100000 (by kernel_rfl) (cellarerlaw05_awake_con ha_629) (by kernel_rfl) ?_
                    exact W.retT 0 100000 h (by kernel_rfl)
                ·
                  refine W.no 0 100000 (by kernel_rfl) ?_
                  refine W.no 0 100000 (by kernel_rfl) ?_
                  refine W.no 0 100000 (by kernel_rfl) ?_
                  refine W.no 0 100000 (by kernel_rfl) ?_
                  refine W.no 0 100000 (by kernel_rfl) ?_
                  refine W.bind h fun a_630 ha_630 h => ?_
                  refine W.call 0 100000 (by kernel_rfl) (cellarerlaw05_awake_con ha_630) (by kernel_rfl) ?_
                  exact W.retT 0 100000 h (by kernel_rfl)
              ·
                refine W.no 0 100000 (by kernel_rfl) ?_
                refine W.no 0 100000 (by kernel_rfl) ?_
                refine W.no 0 100000 (by kernel_rfl) ?_
                refine W.no 0 100000 (by kernel_rfl) ?_
                refine W.no 0 100000 (by kernel_rfl) ?_
                refine W.no 0 100000 (by kernel_rfl) ?_
                refine W.no 0 100000 (by kernel_rfl) ?_
                refine W.no 0 100000 (by kernel_rfl) ?_
                refine W.no 0 100000 (by kernel_rfl) ?_
                refine W.no 0 100000 (by kernel_rfl) ?_
                refine W.no 0 100000 (by kernel_rfl) ?_
                refine W.no 0 100000 (by kernel_rfl) ?_
                refine W.bind h fun a_631 ha_631 h => ?_
                refine W.call 0 100000 (by kernel_rfl) (cellarerlaw05_awake_con ha_631) (by kernel_rfl) ?_
                exact W.retT 0 100000 h (by kernel_rfl)
        ·
          refine W.no 0 100000 (by kernel_rfl) ?_
          refine W.no 0 100000 (by kernel_rfl) ?_
          refine W.no 0 100000 (by kernel_rfl) ?_
          refine W.no 0 100000 (by kernel_rfl) ?_
          refine W.no 0 100000 (by kernel_rfl) ?_
          refine W.no 0 100000 (by kernel_rfl) ?_
          refine W.no 0 100000 (by kernel_rfl) ?_
          refine W.no 0 100000 (by kernel_rfl) ?_
          refine W.cond 0 100000 h (by kernel_rfl) (fun h => ?_) (fun h => ?_)
          ·
            refine W.yes 0 100000 (by kernel_rfl) ?_
            refine W.no 0 100000 (by kernel_rfl) ?_
            refine W.yes 0 100000 (by kernel_rfl) ?_
            refine W.no 0 100000 (by kernel_rfl) ?_
            refine W.cond 0 100000 h (by kernel_rfl) (fun h => ?_) (fun h => ?_)
            ·
              refine W.yes 0 100000 (by kernel_rfl) ?_
              refine W.yes 0 100000 (by kernel_rfl) ?_
              refine W.yes 0 100000 (by kernel_rfl) ?_
              refine W.no 0 100000 (by kernel_rfl) ?_
              refine W.yes 0 100000 (by kernel_rfl) ?_
              refine W.no 0 100000 (by kernel_rfl) ?_
              refine W.yes 0 100000 (by kernel_rfl) ?_
              refine W.yes 0 100000 (by kernel_rfl) ?_
              refine W.no 0 100000 (by kernel_rfl) ?_
              refine W.yes 0 100000 (by kernel_rfl) ?_
              refine W.no 0 100000 (by kernel_rfl) ?_
              refine W.cond 0 100000 h (by kernel_rfl) (fun h => ?_) (fun h => ?_)
              ·
                exact W.retT 0 100000 h (by kernel_rfl)
              ·
                refine W.bind h fun a_632 ha_632 h => ?_
                refine W.call 0 100000 (by kernel_rfl) (cellarerlaw05_awake_con ha_632) (by kernel_rfl) ?_
                exact W.retT 0 100000 h (by kernel_rfl)
            ·
              refine W.no 0 100000 (by kernel_rfl) ?_
              refine W.no 0 100000 (by kernel_rfl) ?_
              refine W.cond 0 100000 h (by kernel_rfl) (fun h => ?_) (fun h => ?_)
              ·
                refine W.yes 0 100000 (by kernel_rfl) ?_
                refine W.no 0 100000 (by kernel_rfl) ?_
                refine W.yes 0 100000 (by kernel_rfl) ?_
                refine W.no 0 100000 (by kernel_rfl) ?_
                refine W.no 0 100000 (by kernel_rfl) ?_
                refine W.no 0 100000 (by kernel_rfl) ?_
                refine W.cond 0 100000 h (by kernel_rfl) (fun h => ?_) (fun h => ?_)
                ·
                  refine W.yes 0 100000 (by kernel_rfl) ?_
                  refine W.no 0 100000 (by kernel_rfl) ?_
                  refine W.yes 0 100000 (by kernel_rfl) ?_
                  refine W.no 0 100000 (by kernel_rfl) ?_
                  refine W.cond 0 100000 h (by kernel_rfl) (fun h => ?_) (fun h => ?_)
                  ·
                    exact W.retT 0 100000 h (by kernel_rfl)
                  ·
                    refine W.bind h fun a_633 ha_633 h => ?_
                    refine W.call 0 100000 (by kernel_rfl) (cellarerlaw05_awake_con ha_633) (by kernel_rfl) ?_
                    exact W.retT 0 100000 h (by kernel_rfl)
                ·
                  refine W.no 0 100000 (by kernel_rfl) ?_
                  refine W.no 0 100000 (by kernel_rfl) ?_
                  refine W.no 0 100000 (by kernel_rfl) ?_
                  refine W.no 0 100000 (by kernel_rfl) ?_
                  refine W.no 0 100000 (by kernel_rfl) ?_
                  refine W.bind h fun a_634 ha_634 h => ?_
                  refine W.call 0 100000 (by kernel_rfl) (cellarerlaw05_awake_con ha_634) (by kernel_rfl) ?_
                  exact W.retT 0 100000 h (by kernel_rfl)
              ·
                refine W.no 0 100000 (by kernel_rfl) ?_
                refine W.no 0 100000 (by kernel_rfl) ?_
                refine W.no 0 100000 (by kernel_rfl) ?_
                refine W.no 0 100000 (by kernel_rfl) ?_
                refine W.no 0 100000 (by kernel_rfl) ?_
                refine W.no 0 100000 (by kernel_rfl) ?_
                refine W.no 0 100000 (by kernel_rfl) ?_
                refine W.no 0 100000 (by kernel_rfl) ?_
                refine W.no 0 100000 (by kernel_rfl) ?_
                refine W.no 0 100000 (by kernel_rfl) ?_
                refine W.no 0 100000 (by kernel_rfl) ?_
                refine W.no 0 100000 (by kernel_rfl) ?_
                refine W.bind h fun a_635 ha_635 h => ?_
                refine W.call 0 100000 (by kernel_rfl) (cellarerlaw05_awake_con ha_635) (by kernel_rfl) ?_
                exact W.retT 0 100000 h (by kernel_rfl)
          ·
            refine W.no 0 100000 (by kernel_rfl) ?_
            refine W.no 0 100000 (by kernel_rfl) ?_
            refine W.no 0 100000 (by kernel_rfl) ?_
            refine W.no 0 100000 (by kernel_rfl) ?_
            refine W.no 0 100000 (by kernel_rfl) ?_
            refine W.no 0 100000 (by kernel_rfl) ?_
            refine W.no 0 100000 (by kernel_rfl) ?_
            refine W.cond 0 100000 h (by kernel_rfl) (fun h => ?_) (fun h => ?_)
            ·
              refine W.yes 0 100000 (by kernel_rfl) ?_
              refine W.no 0 100000 (by kernel_rfl) ?_
              refine W.yes 0 100000 (by kernel_rfl) ?_
              refine W.no 0 100000 (by kernel_rfl) ?_
              refine W.no 0 100000 (by kernel_rfl) ?_
              refine W.no 0 100000 (by kernel_rfl) ?_
              refine W.cond 0 100000 h (by kernel_rfl) (fun h => ?_) (fun h => ?_)
              ·
                refine W.yes 0 100000 (by kernel_rfl) ?_
                refine W.no 0 100000 (by kernel_rfl) ?_
                refine W.yes 0 100000 (by kernel_rfl) ?_
                refine W.no 0 100000 (by kernel_rfl) ?_
                refine W.cond 0 100000 h (by kernel_rfl) (fun h => ?_) (fun h => ?_)
                ·
                  exact W.retT 0 100000 h (by kernel_rfl)
                ·
                  refine W.bind h fun a_636 ha_636 h => ?_
                  refine W.call 0 100000 (by kernel_rfl) (cellarerlaw05_awake_con ha_636) (by kernel_rfl) ?_
                  exact W.retT 0 100000 h (by kernel_rfl)
              ·
                refine W.no 0 100000 (by kernel_rfl) ?_
                refine W.no 0 100000 (by kernel_rfl) ?_
                refine W.no 0 100000 (by kernel_rfl) ?_
                refine W.no 0 100000 (by kernel_rfl) ?_
                refine W.no 0 100000 (by kernel_rfl) ?_
                refine W.bind h fun a_637 ha_637 h => ?_
                refine W.call 0 100000 (by kernel_rfl) (cellarerlaw05_awake_con ha_637) (by kernel_rfl) ?_
                exact W.retT 0 100000 h (by kernel_rfl)
            ·
              refine W.no 0 100000 (by kernel_rfl) ?_
              refine W.no 0 100000 (by kernel_rfl) ?_
              refine W.no 0 100000 (by kernel_rfl) ?_
              refine W.no 0 100000 (by kernel_rfl) ?_
              refine W.no 0 100000 (by kernel_rfl) ?_
              refine W.no 0 100000 (by kernel_rfl) ?_
              refine W.no 0 100000 (by kernel_rfl) ?_
              refine W.no 0 100000 (by kernel_rfl) ?_
              refine W.no 0 100000 (by kernel_rfl) ?_
              refine W.no 0 100000 (by kernel_rfl) ?_
              refine W.no 0 100000 (by kernel_rfl) ?_
              refine W.no 0 100000 (by kernel_rfl) ?_
              refine W.bind h fun a_638 ha_638 h => ?_
              refine W.call 0 100000 (by kernel_rfl) (cellarerlaw05_awake_con ha_638) (by kernel_rfl) ?_
              exact W.retT 0 100000 h (by kernel_rfl)
  · refine W.next 0 5 (by kernel_rfl) ?_
    refine W.cond 1 100000 h640 (by kernel_rfl) (fun h640 => ?_) (fun h640 => ?_)
    ·
      refine W.yes 1 100000 (by kernel_rfl) ?_
      refine W.yes 1 100000 (by kernel_rfl) ?_
      refine W.yes 1 100000 (by kernel_rfl) ?_
      refine W.yes 1 100000 (by kernel_rfl) ?_
      refine W.yes 1 100000 (by kernel_rfl) ?_
      refine W.yes 1 100000 (by kernel_rfl) ?_
      refine W.yes 1 100000 (by kernel_rfl) ?_
      refine W.yes 1 100000 (by kernel_rfl) ?_
      refine W.bind h640 fun a_588 ha_588 h640 => ?_
      refine W.call 1 100000 (by kernel_rfl) (cellarerlaw05_awake_con ha_588) (by kernel_rfl) ?_
      cases h640; exact W.retK 1 100000 K640 (by kernel_rfl)
    ·
      refine W.no 1 100000 (by kernel_rfl) ?_
      refine W.no 1 100000 (by kernel_rfl) ?_
      refine W.no 1 100000 (by kernel_rfl) ?_
      refine W.cond 1 100000 h640 (by kernel_rfl) (fun h640 => ?_) (fun h640 => ?_)
      ·
        refine W.yes 1 100000 (by kernel_rfl) ?_
        refine W.yes 1 100000 (by kernel_rfl) ?_
        refine W.yes 1 100000 (by kernel_rfl) ?_
        refine W.yes 1 100000 (by kernel_rfl) ?_
        refine W.bind h640 fun a_589 ha_589 h640 => ?_
        refine W.call 1 100000 (by kernel_rfl) (cellarerlaw05_awake_con ha_589) (by kernel_rfl) ?_
        cases h640; exact W.retK 1 100000 K640 (by kernel_rfl)
      ·
        refine W.no 1 100000 (by kernel_rfl) ?_
        refine W.no 1 100000 (by kernel_rfl) ?_
        refine W.no 1 100000 (by kernel_rfl) ?_
        refine W.cond 1 100000 h640 (by kernel_rfl) (fun h640 => ?_) (fun h640 => ?_)
        ·
          refine W.bind h640 fun a_590 ha_590 h640 => ?_
          refine W.call 1 100000 (by kernel_rfl) (cellarerlaw05_awake_con ha_590) (by kernel_rfl) ?_
          cases h640; exact W.retK 1 100000 K640 (by kernel_rfl)
        ·
          cases h640; exact W.at 1 100000 [] [0, 1, 2] (by kernel_rfl) K640

theorem cellarerlaw05_VersionBest_con {l_643 : List (List UInt8)} {r : Bool} (h : cellarerlaw05_VersionBest l_643 = some r) : Con Go.Proofs.Tryd.prog 7 [AV.list Ty.str l_643 Bool.false] [] (cellarerlaw05_VersionBest_res r) (cellarerlaw05_VersionBest_out r) := by
  refine W.con (by kernel_rfl) ?_
  unfold cellarerlaw05_VersionBest at h
  refine W.cond 0 100000 h (by kernel_rfl) (fun h => ?_) (fun h => ?_)
  ·
    refine W.bind h fun a_644 ha_644 h => ?_
    refine W.call 0 100000 (by kernel_rfl) (cellarerlaw05_awake_con ha_644) (by kernel_rfl) ?_
    exact W.retT 0 100000 h (by kernel_rfl)
  ·
    refine W.at 0 100000 [] [0, 3] (c' := (fun (s_669 : Int) => (Cfg.mk Mode.run (headTodo Go.Proofs.Tryd.prog 7 0) (St.mk [AV.list Ty.str l_643 Bool.false, jj, jj, AV.int IntKind.i64 s_669, jj, jj, jj, jj, jj, jj, jj, jj, jj, jj, jj, jj, jj, jj, jj, jj, jj, jj, jj, jj, jj, jj, jj, jj, jj, jj, jj, jj, jj, jj, jj, jj, jj, jj, jj, jj, jj, jj, jj, jj, jj, jj, jj, jj, jj, jj, jj, jj, jj, jj, jj, jj, jj, jj, jj, jj, jj, jj, jj, jj, jj, jj, jj, jj, jj] [] (0 : Nat)))) ((0 : Int))) (by kernel_rfl) ?_
    refine W.loop (fun (s_669 : Int) => (Cfg.mk Mode.run (headTodo Go.Proofs.Tryd.prog 7 0) (St.mk [AV.list Ty.str l_643 Bool.false, jj, jj, AV.int IntKind.i64 s_669, jj, jj, jj, jj, jj, jj, jj, jj, jj, jj, jj, jj, jj, jj, jj, jj, jj, jj, jj, jj, jj, jj, jj, jj, jj, jj, jj, jj, jj, jj, jj, jj, jj, jj, jj, jj, jj, jj, jj, jj, jj, jj, jj, jj, jj, jj, jj, jj, jj, jj, jj, jj, jj, jj, jj, jj, jj, jj, jj, jj, jj, jj, jj, jj, jj] [] (0 : Nat)))) (fun t => (Sum.elim (fun t_649 => r = (t_649)) (fun t_650 => Walk Go.Proofs.Tryd.prog 7 (Cfg.mk Mode.run ((headTodo Go.Proofs.Tryd.prog 7 0).drop 3) (St.mk [AV.list Ty.str l_643 Bool.false, jj, jj, jj, jj, jj, jj, jj, jj, jj, jj, jj, jj, jj, jj, jj, jj, jj, jj, jj, jj, jj, jj, jj, jj, jj, jj, jj, jj, jj, jj, jj, jj, jj, jj, jj, jj, jj, jj, jj, jj, jj, jj, jj, jj, jj, jj, jj, jj, jj, jj, jj, jj, jj, jj, jj, jj, jj, jj, jj, jj, jj, jj, jj, jj, jj, jj, jj, jj] [] (0 : Nat))) (cellarerlaw05_VersionBest_res r) (cellarerlaw05_VersionBest_out r))) t) h (fun t h => ?_) (fun s_669 x665 h665 K665 => ?_)
    ·
      rcases t with t_649 | t_650
      · replace h := W.inl (h)
        refine W.elimL (?_)
        exact (Option.some.inj h).symm
      · replace h := W.inr (h)
        refine W.elimR (?_)
        refine W.bind h fun a_651 ha_651 h => ?_
        refine W.call 0 100000 (by kernel_rfl) (version_Best_con ha_651) (by kernel_rfl) ?_
        refine W.cond 0 100000 h (by kernel_rfl) (fun h => ?_) (fun h => ?_)
        ·
          refine W.cond 0 100000 h (by kernel_rfl) (fun h => ?_) (fun h => ?_)
          ·
            refine W.bind h fun a_652 ha_652 h => ?_
            refine W.call 0 100000 (by kernel_rfl) (cellarerlaw05_awake_con ha_652) (by kernel_rfl) ?_
            refine W.yes 0 100000 (by kernel_rfl) ?_
            exact W.retT 0 100000 h (by kernel_rfl)
          ·
            refine W.no 0 100000 (by kernel_rfl) ?_
            exact W.retT 0 100000 h (by kernel_rfl)
        ·
          refine W.join (fun t => (Sum.elim (fun t_653 => r = (Bool.false)) (fun t_654 => Walk Go.Proofs.Tryd.prog 7 (Cfg.mk Mode.run (seqTodo Go.Proofs.Tryd.prog 7 15) (St.mk [AV.list Ty.str l_643 Bool.false, jj, jj, jj, AV.int IntKind.i64 a_651, jj, jj, jj, jj, jj, jj, jj, jj, jj, jj, jj, jj, jj, jj, jj, jj, jj, jj, jj, jj, jj, jj, jj, jj, jj, jj, jj, jj, jj, jj, jj, jj, jj, jj, jj, jj, jj, jj, jj, jj, jj, jj, jj, jj, jj, jj, jj, jj, jj, jj, jj, jj, jj, jj, jj, jj, jj, jj, jj, jj, jj, jj, jj, jj] [] (0 : Nat))) (cellarerlaw05_VersionBest_res r) (cellarerlaw05_VersionBest_out r))) t) h (fun t h => ?_) (fun t664 h664 K664 => ?_)
          ·
            rcases t with t_653 | t_654
            · replace h := W.inl (h)
              refine W.elimL (?_)
              exact (Option.some.inj h).symm
            · replace h := W.inr (h)
              refine W.elimR (?_)
              refine W.at 0 100000 [] [0, 4, 5] (c' := (fun (s_670 : Int) => (Cfg.mk Mode.run (headTodo Go.Proofs.Tryd.prog 7 1) (St.mk [AV.list Ty.str l_643 Bool.false, jj, jj, jj, AV.int IntKind.i64 a_651, AV.int IntKind.i64 s_670, jj, jj, jj, jj, jj, jj, jj, jj, jj, jj, jj, jj, jj, jj, jj, jj, jj, jj, jj, jj, jj, jj, jj, jj, jj, jj, jj, jj, jj, jj, jj, jj, jj, jj, jj, jj, jj, jj, jj, jj, jj, jj, jj, jj, jj, jj, jj, jj, jj, jj, jj, jj, jj, jj, jj, jj, jj, jj, jj, jj, jj, jj, jj] [] (0 : Nat)))) ((0 : Int))) (by kernel_rfl) ?_
              refine W.loop (fun (s_670 : Int) => (Cfg.mk Mode.run (headTodo Go.Proofs.Tryd.prog 7 1) (St.mk [AV.list Ty.str l_643 Bool.false, jj, jj, jj, AV.int IntKind.i64 a_651, AV.int IntKind.i64 s_670, jj, jj, jj, jj, jj, jj, jj, jj, jj, jj, jj, jj, jj, jj, jj, jj, jj, jj, jj, jj, jj, jj, jj, jj, jj, jj, jj, jj, jj, jj, jj, jj, jj, jj, jj, jj, jj, jj, jj, jj, jj, jj, jj, jj, jj, jj, jj, jj, jj, jj, jj, jj, jj, jj, jj, jj, jj, jj, jj, jj, jj, jj, jj] [] (0 : Nat)))) (fun t => (Sum.elim (fun t_659 => r = (Bool.false)) (fun t_660 => Walk Go.Proofs.Tryd.prog 7 (Cfg.mk Mode.run ((headTodo Go.Proofs.Tryd.prog 7 1).drop 3) (St.mk [jj, jj, jj, jj, jj, jj, jj, jj, jj, jj, jj, jj, jj, jj, jj, jj, jj, jj, jj, jj, jj, jj, jj, jj, jj, jj, jj, jj, jj, jj, jj, jj, jj, jj, jj, jj, jj, jj, jj, jj, jj, jj, jj, jj, jj, jj, jj, jj, jj, jj, jj, jj, jj, jj, jj, jj, jj, jj, jj, jj, jj, jj, jj, jj, jj, jj, jj, jj, jj] [] (0 : Nat))) (cellarerlaw05_VersionBest_res r) (cellarerlaw05_VersionBest_out r))) t) h (fun t h => ?_) (fun s_670 x663 h663 K663 => ?_)
              ·
                rcases t with t_659 | t_660
                · replace h := W.inl (h)
                  refine W.elimL (?_)
                  exact (Option.some.inj h).symm
                · replace h := W.inr (h)
                  refine W.elimR (?_)
                  refine W.bind h fun a_661 ha_661 h => ?_
                  refine W.call 0 100000 (by kernel_rfl) (cellarerlaw05_awake_con ha_661) (by kernel_rfl) ?_
                  exact W.retT 0 100000 h (by kernel_rfl)
              · unfold cellarerlaw05_VersionBest_b1 at h663
                refine W.cond 2 100000 h663 (by kernel_rfl) (fun h663 => ?_) (fun h663 => ?_)
                ·
                  refine W.needT 2 100000 h663 (by kernel_rfl) (fun h663 => ?_)
                  refine W.needT 2 100000 h663 (by kernel_rfl) (fun h663 => ?_)
                  refine W.bind h663 fun a_658 ha_658 h663 => ?_
                  refine W.call 2 100000 (by kernel_rfl) (version_Compare_con ha_658) (by kernel_rfl) ?_
                  refine W.cond 2 100000 h663 (by kernel_rfl) (fun h663 => ?_) (fun h663 => ?_)
                  ·
                    refine W.yes 2 100000 (by kernel_rfl) ?_
                    refine W.yes 2 100000 (by kernel_rfl) ?_
                    refine W.yes 2 100000 (by kernel_rfl) ?_
                    refine W.yes 2 100000 (by kernel_rfl) ?_
                    refine W.yes 2 100000 (by kernel_rfl) ?_
                    cases h663; exact W.retK 2 100000 K663 (by kernel_rfl)
                  ·
                    refine W.no 2 100000 (by kernel_rfl) ?_
                    refine W.no 2 100000 (by kernel_rfl) ?_
                    refine W.cond 2 100000 h663 (by kernel_rfl) (fun h663 => ?_) (fun h663 => ?_)
                    ·
                      refine W.yes 2 100000 (by kernel_rfl) ?_
                      refine W.yes 2 100000 (by kernel_rfl) ?_
                      refine W.no 2 100000 (by kernel_rfl) ?_
                      refine W.yes 2 100000 (by kernel_rfl) ?_
                      refine W.no 2 100000 (by kernel_rfl) ?_
                      refine W.cond 2 100000 h663 (by kernel_rfl) (fun h663 => ?_) (fun h663 => ?_)
                      ·
                        cases h663; exact W.retK 2 100000 K663 (by kernel_rfl)
                      ·
                        cases h663; exact W.at 2 100000 [] [0, 4, 5] (by kernel_rfl) K663
                    ·
                      refine W.no 2 100000 (by kernel_rfl) ?_
                      refine W.no 2 100000 (by kernel_rfl) ?_
                      refine W.no 2 100000 (by kernel_rfl) ?_
                      refine W.no 2 100000 (by kernel_rfl) ?_
                      refine W.no 2 100000 (by kernel_rfl) ?_
                      refine W.no 2 100000 (by kernel_rfl) ?_
                      cases h663; exact W.at 2 100000 [] [0, 4, 5] (by kernel_rfl) K663
                ·
                  cases h663; exact W.at 2 100000 [] [] (by kernel_rfl) K663
          · refine W.next 0 2 (by kernel_rfl) ?_
            refine W.cond 1 100000 h664 (by kernel_rfl) (fun h664 => ?_) (fun h664 => ?_)
            ·
              refine W.yes 1 100000 (by kernel_rfl) ?_
              refine W.yes 1 100000 (by kernel_rfl) ?_
              refine W.yes 1 100000 (by kernel_rfl) ?_
              refine W.yes 1 100000 (by kernel_rfl) ?_
              refine W.yes 1 100000 (by kernel_rfl) ?_
              cases h664; exact W.retK 1 100000 K664 (by kernel_rfl)
            ·
              refine W.no 1 100000 (by kernel_rfl) ?_
              refine W.no 1 100000 (by kernel_rfl) ?_
              refine W.no 1 100000 (by kernel_rfl) ?_
              refine W.no 1 100000 (by kernel_rfl) ?_
              refine W.cond 1 100000 h664 (by kernel_rfl) (fun h664 => ?_) (fun h664 => ?_)
              ·
                cases h664; exact W.retK 1 100000 K664 (by kernel_rfl)
              ·
                cases h664; exact W.at 1 100000 [] [0, 4] (by kernel_rfl) K664
    · unfold cellarerlaw05_VersionBest_b0 at h665
      refine W.cond 2 100000 h665 (by kernel_rfl) (fun h665 => ?_) (fun h665 => ?_)
      ·
        refine W.needT 2 100000 h665 (by kernel_rfl) (fun h665 => ?_)
        refine W.cond 2 100000 h665 (by kernel_rfl) (fun h665 => ?_) (fun h665 => ?_)
        ·
          refine W.bind h665 fun a_647 ha_647 h665 => ?_
          refine W.call 2 100000 (by kernel_rfl) (cellarerlaw05_awake_con ha_647) (by kernel_rfl) ?_
          cases h665; exact W.retK 2 100000 K665 (by kernel_rfl)
        ·
          cases h665; exact W.at 2 100000 [] [0, 3] (by kernel_rfl) K665
      ·
        cases h665; exact W.at 2 100000 [] [0] (by kernel_rfl) K665

theorem cellarerlaw05_VersionCompares_con {a_674 : List UInt8} {b_675 : List UInt8} {op_676 : List UInt8} {r : Bool} (h : cellarerlaw05_VersionCompares a_674 b_675 op_676 = some r) : Con Go.Proofs.Tryd.prog 8 [AV.str a_674, AV.str b_675, AV.str op_676] [] (cellarerlaw05_VersionCompares_res r) (cellarerlaw05_VersionCompares_out r) := by
  refine W.con (by kernel_rfl) ?_
  unfold cellarerlaw05_VersionCompares at h
  refine W.join (fun t => (Sum.elim (fun t_680 => r = (t_680)) (fun t_681 => Walk Go.Proofs.Tryd.prog 8 (Cfg.mk Mode.run (seqTodo Go.Proofs.Tryd.prog 8 1) (St.mk [AV.str a_674, AV.str b_675, AV.str op_676, jj, jj, jj, jj, jj, jj, jj, jj, jj, jj, jj, jj, jj, jj, jj, jj, jj, jj, jj, jj, jj, jj, jj, jj, jj, jj, jj, jj, jj, jj, jj, jj, jj, jj, jj, jj, jj, jj, jj, jj, jj, jj, jj, jj] [] (0 : Nat))) (cellarerlaw05_VersionCompares_res r) (cellarerlaw05_VersionCompares_out r))) t) h (fun t h => ?_) (fun t689 h689 K689 => ?_)
  ·
    rcases t with t_680 | t_681
    · replace h := W.inl (h)
      refine W.elimL (?_)
      exact (Option.some.inj h).symm
    · replace h := W.inr (h)
      refine W.elimR (?_)
      refine W.bind h fun a_682 ha_682 h => ?_
      refine W.call 0 100000 (by kernel_rfl) (version_Compare_con ha_682) (by kernel_rfl) ?_
      refine W.bind h fun a_683 ha_683 h => ?_
      refine W.call 0 100000 (by kernel_rfl) (cellarerref05_Compare_con ha_683) (by kernel_rfl) ?_
      refine W.cond 0 100000 h (by kernel_rfl) (fun h => ?_) (fun h => ?_)
      ·
        refine W.yes 0 100000 (by kernel_rfl) ?_
        refine W.yes 0 100000 (by kernel_rfl) ?_
        refine W.bind h fun a_684 ha_684 h => ?_
        refine W.call 0 100000 (by kernel_rfl) (version_Compare_con ha_684) (by kernel_rfl) ?_
        refine W.yes 0 100000 (by kernel_rfl) ?_
        refine W.yes 0 100000 (by kernel_rfl) ?_
        refine W.yes 0 100000 (by kernel_rfl) ?_
        refine W.yes 0 100000 (by kernel_rfl) ?_
        refine W.cond 0 100000 h (by kernel_rfl) (fun h => ?_) (fun h => ?_)
        ·
          refine W.yes 0 100000 (by kernel_rfl) ?_
          refine W.yes 0 100000 (by kernel_rfl) ?_
          refine W.yes 0 100000 (by kernel_rfl) ?_
          refine W.bind h fun a_685 ha_685 h => ?_
          refine W.call 0 100000 (by kernel_rfl) (version_Holds_con ha_685) (by kernel_rfl) ?_
          refine W.yes 0 100000 (by kernel_rfl) ?_
          refine W.yes 0 100000 (by kernel_rfl) ?_
          refine W.yes 0 100000 (by kernel_rfl) ?_
          refine W.yes 0 100000 (by kernel_rfl) ?_
          refine W.bind h fun a_686 ha_686 h => ?_
          refine W.call 0 100000 (by kernel_rfl) (cellarerref05_Holds_con ha_686) (by kernel_rfl) ?_
          refine W.yes 0 100000 (by kernel_rfl) ?_
          refine W.yes 0 100000 (by kernel_rfl) ?_
          refine W.cond 0 100000 h (by kernel_rfl) (fun h => ?_) (fun h => ?_)
          ·
            refine W.bind h fun a_687 ha_687 h => ?_
            refine W.call 0 100000 (by kernel_rfl) (cellarerlaw05_awake_con ha_687) (by kernel_rfl) ?_
            refine W.yes 0 100000 (by kernel_rfl) ?_
            exact W.retT 0 100000 h (by kernel_rfl)
          ·
            refine W.no 0 100000 (by kernel_rfl) ?_
            exact W.retT 0 100000 h (by kernel_rfl)
        ·
          refine W.no 0 100000 (by kernel_rfl) ?_
          refine W.no 0 100000 (by kernel_rfl) ?_
          refine W.no 0 100000 (by kernel_rfl) ?_
          refine W.no 0 100000 (by kernel_rfl) ?_
          refine W.no 0 100000 (by kernel_rfl) ?_
          refine W.no 0 100000 (by kernel_rfl) ?_
          refine W.no 0 100000 (by kernel_rfl) ?_
          refine W.no 0 100000 (by kernel_rfl) ?_
          refine W.no 0 100000 (by kernel_rfl) ?_
          refine W.no 0 100000 (by kernel_rfl) ?_
          refine W.no 0 100000 (by kernel_rfl) ?_
          exact W.retT 0 100000 h (by kernel_rfl)
      ·
        refine W.no 0 100000 (by kernel_rfl) ?_
        refine W.no 0 100000 (by kernel_rfl) ?_
        refine W.no 0 100000 (by kernel_rfl) ?_
        refine W.no 0 100000 (by kernel_rfl) ?_
        refine W.no 0 100000 (by kernel_rfl) ?_
        refine W.no 0 100000 (by kernel_rfl) ?_
        refine W.no 0 100000 (by kernel_rfl) ?_
        refine W.no 0 100000 (by kernel_rfl) ?_
        refine W.no 0 100000 (by kernel_rfl) ?_
        refine W.no 0 100000 (by kernel_rfl) ?_
        refine W.no 0 100000 (by kernel_rfl) ?_
        refine W.no 0 100000 (by kernel_rfl) ?_
        refine W.no 0 100000 (by kernel_rfl) ?_
        refine W.no 0 100000 (by kernel_rfl) ?_
        refine W.no 0 100000 (by kernel_rfl) ?_
        refine W.no 0 100000 (by kernel_rfl) ?_
        refine W.no 0 100000 (by kernel_rfl) ?_
        refine W.no 0 100000 (by kernel_rfl) ?_
        exact W.retT 0 100000 h (by kernel_rfl)
  · refine W.next 0 5 (by kernel_rfl) ?_
    refine W.cond 1 100000 h689 (by kernel_rfl) (fun h689 => ?_) (fun h689 => ?_)
    ·
      refine W.yes 1 100000 (by kernel_rfl) ?_
      refine W.yes 1 100000 (by kernel_rfl) ?_
      refine W.yes 1 100000 (by kernel_rfl) ?_
      refine W.yes 1 100000 (by kernel_rfl) ?_
      refine W.bind h689 fun a_677 ha_677 h689 => ?_
      refine W.call 1 100000 (by kernel_rfl) (cellarerlaw05_awake_con ha_677) (by kernel_rfl) ?_
      cases h689; exact W.retK 1 100000 K689 (by kernel_rfl)
    ·
      refine W.no 1 100000 (by kernel_rfl) ?_
      refine W.no 1 100000 (by kernel_rfl) ?_
      refine W.no 1 100000 (by kernel_rfl) ?_
      refine W.cond 1 100000 h689 (by kernel_rfl) (fun h689 => ?_) (fun h689 => ?_)
      ·
        refine W.bind h689 fun a_678 ha_678 h689 => ?_
        refine W.call 1 100000 (by kernel_rfl) (cellarerlaw05_awake_con ha_678) (by kernel_rfl) ?_
        cases h689; exact W.retK 1 100000 K689 (by kernel_rfl)
      ·
        cases h689; exact W.at 1 100000 [] [0, 1, 2] (by kernel_rfl) K689

end Go.Cellar
