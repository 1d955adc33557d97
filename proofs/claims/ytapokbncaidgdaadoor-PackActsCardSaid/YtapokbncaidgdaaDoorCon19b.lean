/- What the program's functions come to: printed by a program, checked by Lean. No condition. -/
import Derived.Test.YtapokbncaidgdaaDoorCon19a
set_option maxRecDepth 4000
set_option linter.unusedVariables false
namespace Go.Cellar
open Go

theorem pack_Act_con {a_608 : Int} {a_609 : List UInt8} {a_610 : List UInt8} {a_611 : List UInt8} {a_612 : Int} {a_613 : Int} {a_614 : Int} {a_615 : Int} {a_616 : Bool} {a_617 : Bool} {a_618 : List (List UInt8 × List UInt8)} {a_619 : List (List UInt8)} {r : Bool} (h : pack_Act a_608 a_609 a_610 a_611 a_612 a_613 a_614 a_615 a_616 a_617 a_618 a_619 = some r) : Con Go.Proofs.Tryd.prog 9 [AV.agg [AV.int IntKind.i64 a_608, AV.str a_609, AV.str a_610, AV.str a_611, AV.int IntKind.i64 a_612, AV.int IntKind.i64 a_613, AV.int IntKind.i64 a_614, AV.int IntKind.i64 a_615, AV.bool a_616, AV.bool a_617, AV.list (Ty.prod Ty.str Ty.str) a_618 Bool.false, AV.list Ty.str a_619 Bool.false]] [] (pack_Act_res r) (pack_Act_out r) := by
  refine W.con (by kernel_rfl) ?_
  unfold pack_Act at h
  refine W.join (fun t => (Sum.elim (fun t_659 => r = (t_659)) (Sum.elim (fun t_660 => Walk Go.Proofs.Tryd.prog 9 (Cfg.mk Mode.run (seqTodo Go.Proofs.Tryd.prog 9 5) (St.mk [jj, AV.ptr (0 : Nat) (0 : Nat), jj, jj, jj, jj, jj, jj, jj, jj, jj, jj, jj, jj, jj, jj, jj, jj, jj, jj, jj, jj, jj, jj, jj, jj, jj, jj, jj, jj, jj, jj, jj, jj, jj, jj, jj, jj, jj, jj, jj, jj, jj, jj, jj, jj, jj, jj, jj, jj, jj, jj, jj, jj, jj, jj, jj, jj, jj, jj, jj, jj, jj, jj, jj, jj, jj, jj, jj, jj, jj, jj, jj, jj, jj, jj, jj, jj, jj, jj] [AO.box [AV.int IntKind.i64 a_608, AV.str a_609, AV.str a_610, AV.str a_611, AV.int IntKind.i64 a_612, AV.int IntKind.i64 a_613, AV.int IntKind.i64 a_614, AV.int IntKind.i64 a_615, AV.bool a_616, AV.bool a_617, AV.list (Ty.prod Ty.str Ty.str) a_618 Bool.false, AV.list Ty.str a_619 Bool.false]] (0 : Nat))) (pack_Act_res r) (pack_Act_out r)) (Sum.elim (fun t_663 => Walk Go.Proofs.Tryd.prog 9 (Cfg.mk Mode.run ((seqTodo Go.Proofs.Tryd.prog 9 5).drop 2) (St.mk [jj, AV.ptr (0 : Nat) (0 : Nat), jj, jj, jj, jj, jj, jj, jj, jj, jj, jj, jj, jj, jj, jj, jj, jj, jj, jj, jj, jj, jj, jj, jj, jj, jj, jj, jj, jj, jj, jj, jj, jj, jj, jj, jj, jj, jj, jj, jj, jj, jj, jj, jj, jj, jj, jj, jj, jj, jj, jj, jj, jj, jj, jj, jj, jj, jj, jj, jj, jj, jj, jj, jj, jj, jj, jj, jj, jj, jj, jj, jj, jj, jj, jj, jj, jj, jj, jj] [AO.box [AV.int IntKind.i64 a_608, AV.str a_609, AV.str a_610, AV.str a_611, AV.int IntKind.i64 a_612, AV.int IntKind.i64 a_613, AV.int IntKind.i64 a_614, AV.int IntKind.i64 a_615, AV.bool a_616, AV.bool a_617, AV.list (Ty.prod Ty.str Ty.str) a_618 Bool.false, AV.list Ty.str a_619 Bool.false]] (0 : Nat))) (pack_Act_res r) (pack_Act_out r)) (Sum.elim (fun t_665 => Walk Go.Proofs.Tryd.prog 9 (Cfg.mk Mode.run ((seqTodo Go.Proofs.Tryd.prog 9 5).drop 4) (St.mk [jj, AV.ptr (0 : Nat) (0 : Nat), jj, jj, jj, jj, jj, jj, jj, jj, jj, jj, jj, jj, jj, jj, jj, jj, jj, jj, jj, jj, jj, jj, jj, jj, jj, jj, jj, jj, jj, jj, jj, jj, jj, jj, jj, jj, jj, jj, jj, jj, jj, jj, jj, jj, jj, jj, jj, jj, jj, jj, jj, jj, jj, jj, jj, jj, jj, jj, jj, jj, jj, jj, jj, jj, jj, jj, jj, jj, jj, jj, jj, jj, jj, jj, jj, jj, jj, jj] [AO.box [AV.int IntKind.i64 a_608, AV.str a_609, AV.str a_610, AV.str a_611, AV.int IntKind.i64 a_612, AV.int IntKind.i64 a_613, AV.int IntKind.i64 a_614, AV.int IntKind.i64 a_615, AV.bool a_616, AV.bool a_617, AV.list (Ty.prod Ty.str Ty.str) a_618 Bool.false, AV.list Ty.str a_619 Bool.false]] (0 : Nat))) (pack_Act_res r) (pack_Act_out r)) (fun t_667 => Walk Go.Proofs.Tryd.prog 9 (Cfg.mk Mode.run ((seqTodo Go.Proofs.Tryd.prog 9 5).drop 6) (St.mk [jj, jj, jj, jj, jj, jj, jj, jj, jj, jj, jj, jj, jj, jj, jj, jj, jj, jj, jj, jj, jj, jj, jj, jj, jj, jj, jj, jj, jj, jj, jj, jj, jj, jj, jj, jj, jj, jj, jj, jj, jj, jj, jj, jj, jj, jj, jj, jj, jj, jj, jj, jj, jj, jj, jj, jj, jj, jj, jj, jj, jj, jj, jj, jj, jj, jj, jj, jj, jj, jj, jj, jj, jj, jj, jj, jj, jj, jj, jj, jj] [] (0 : Nat))) (pack_Act_res r) (pack_Act_out r)))))) t) h (fun t h => ?_) (fun t669 h669 K669 => ?_)
  ·
    rcases t with t_659 | t_660 | t_663 | t_665 | t_667
    · replace h := W.inl (h)
      refine W.elimL (?_)
      exact (Option.some.inj h).symm
    · replace h := W.inl (W.inr (h))
      refine W.elimR (W.elimL (?_))
      refine W.bind h fun a_661 ha_661 h => ?_
      refine W.call 0 100000 (by kernel_rfl) (pack_name_con ha_661) (by kernel_rfl) ?_
      refine W.cond 0 100000 h (by kernel_rfl) (fun h => ?_) (fun h => ?_)
      ·
        refine W.yes 0 100000 (by kernel_rfl) ?_
        refine W.yes 0 100000 (by kernel_rfl) ?_
        refine W.bind h fun a_662 ha_662 h => ?_
        refine W.call 0 100000 (by kernel_rfl) (pack_place_con ha_662) (by kernel_rfl) ?_
        refine W.yes 0 100000 (by kernel_rfl) ?_
        exact W.retT 0 100000 h (by kernel_rfl)
      ·
        refine W.no 0 100000 (by kernel_rfl) ?_
        refine W.no 0 100000 (by kernel_rfl) ?_
        refine W.no 0 100000 (by kernel_rfl) ?_
        exact W.retT 0 100000 h (by kernel_rfl)
    · replace h := W.inl (W.inr (W.inr (h)))
      refine W.elimR (W.elimR (W.elimL (?_)))
      refine W.bind h fun a_664 ha_664 h => ?_
      refine W.call 0 100000 (by kernel_rfl) (pack_name_con ha_664) (by kernel_rfl) ?_
      exact W.retT 0 100000 h (by kernel_rfl)
    · replace h := W.inl (W.inr (W.inr (W.inr (h))))
      refine W.elimR (W.elimR (W.elimR (W.elimL (?_))))
      refine W.bind h fun a_666 ha_666 h => ?_
      refine W.call 0 100000 (by kernel_rfl) (status_Trigger_con ha_666) (by kernel_rfl) ?_
      exact W.retT 0 100000 h (by kernel_rfl)
    · replace h := W.inr (W.inr (W.inr (W.inr (h))))
      refine W.elimR (W.elimR (W.elimR (W.elimR (?_))))
      exact W.retT 0 100000 h (by kernel_rfl)
  · refine W.next 0 17 (by kernel_rfl) ?_
    refine W.join (fun t => (Sum.elim (fun t_647 => r = (t_647)) (Sum.elim (fun t_648 => Walk Go.Proofs.Tryd.prog 9 (Cfg.mk Mode.run (seqTodo Go.Proofs.Tryd.prog 9 7) (St.mk [jj, AV.ptr (0 : Nat) (0 : Nat), jj, jj, jj, jj, jj, jj, jj, jj, jj, jj, jj, jj, jj, jj, jj, jj, jj, jj, jj, jj, jj, jj, jj, jj, jj, jj, jj, jj, jj, jj, jj, jj, jj, jj, jj, jj, jj, jj, jj, jj, jj, jj, jj, jj, jj, jj, jj, jj, jj, jj, jj, jj, jj, jj, jj, jj, jj, jj, jj, jj, jj, jj, jj, jj, jj, jj, jj, jj, jj, jj, jj, jj, jj, jj, jj, jj, jj, jj] [AO.box [AV.int IntKind.i64 a_608, AV.str a_609, AV.str a_610, AV.str a_611, AV.int IntKind.i64 a_612, AV.int IntKind.i64 a_613, AV.int IntKind.i64 a_614, AV.int IntKind.i64 a_615, AV.bool a_616, AV.bool a_617, AV.list (Ty.prod Ty.str Ty.str) a_618 Bool.false, AV.list Ty.str a_619 Bool.false]] (0 : Nat))) (pack_Act_res r) (pack_Act_out r)) (Sum.elim (fun t_650 => Walk Go.Proofs.Tryd.prog 9 (Cfg.mk Mode.run ((seqTodo Go.Proofs.Tryd.prog 9 7).drop 2) (St.mk [jj, AV.ptr (0 : Nat) (0 : Nat), jj, jj, jj, jj, jj, jj, jj, jj, jj, jj, jj, jj, jj, jj, jj, jj, jj, jj, jj, jj, jj, jj, jj, jj, jj, jj, jj, jj, jj, jj, jj, jj, jj, jj, jj, jj, jj, jj, jj, jj, jj, jj, jj, jj, jj, jj, jj, jj, jj, jj, jj, jj, jj, jj, jj, jj, jj, jj, jj, jj, jj, jj, jj, jj, jj, jj, jj, jj, jj, jj, jj, jj, jj, jj, jj, jj, jj, jj] [AO.box [AV.int IntKind.i64 a_608, AV.str a_609, AV.str a_610, AV.str a_611, AV.int IntKind.i64 a_612, AV.int IntKind.i64 a_613, AV.int IntKind.i64 a_614, AV.int IntKind.i64 a_615, AV.bool a_616, AV.bool a_617, AV.list (Ty.prod Ty.str Ty.str) a_618 Bool.false, AV.list Ty.str a_619 Bool.false]] (0 : Nat))) (pack_Act_res r) (pack_Act_out r)) (Sum.elim (fun t_653 => Walk Go.Proofs.Tryd.prog 9 (Cfg.mk Mode.run ((seqTodo Go.Proofs.Tryd.prog 9 7).drop 4) (St.mk [jj, AV.ptr (0 : Nat) (0 : Nat), jj, jj, jj, jj, jj, jj, jj, jj, jj, jj, jj, jj, jj, jj, jj, jj, jj, jj, jj, jj, jj, jj, jj, jj, jj, jj, jj, jj, jj, jj, jj, jj, jj, jj, jj, jj, jj, jj, jj, jj, jj, jj, jj, jj, jj, jj, jj, jj, jj, jj, jj, jj, jj, jj, jj, jj, jj, jj, jj, jj, jj, jj, jj, jj, jj, jj, jj, jj, jj, jj, jj, jj, jj, jj, jj, jj, jj, jj] [AO.box [AV.int IntKind.i64 a_608, AV.str a_609, AV.str a_610, AV.str a_611, AV.int IntKind.i64 a_612, AV.int IntKind.i64 a_613, AV.int IntKind.i64 a_614, AV.int IntKind.i64 a_615, AV.bool a_616, AV.bool a_617, AV.list (Ty.prod Ty.str Ty.str) a_618 Bool.false, AV.list Ty.str a_619 Bool.false]] (0 : Nat))) (pack_Act_res r) (pack_Act_out r)) (Sum.elim (fun t_654 => Walk Go.Proofs.Tryd.prog 9 (Cfg.mk Mode.run ((seqTodo Go.Proofs.Tryd.prog 9 7).drop 6) (St.mk [jj, AV.ptr (0 : Nat) (0 : Nat), jj, jj, jj, jj, jj, jj, jj, jj, jj, jj, jj, jj, jj, jj, jj, jj, jj, jj, jj, jj, jj, jj, jj, jj, jj, jj, jj, jj, jj, jj, jj, jj, jj, jj, jj, jj, jj, jj, jj, jj, jj, jj, jj, jj, jj, jj, jj, jj, jj, jj, jj, jj, jj, jj, jj, jj, jj, jj, jj, jj, jj, jj, jj, jj, jj, jj, jj, jj, jj, jj, jj, jj, jj, jj, jj, jj, jj, jj] [AO.box [AV.int IntKind.i64 a_608, AV.str a_609, AV.str a_610, AV.str a_611, AV.int IntKind.i64 a_612, AV.int IntKind.i64 a_613, AV.int IntKind.i64 a_614, AV.int IntKind.i64 a_615, AV.bool a_616, AV.bool a_617, AV.list (Ty.prod Ty.str Ty.str) a_618 Bool.false, AV.list Ty.str a_619 Bool.false]] (0 : Nat))) (pack_Act_res r) (pack_Act_out r)) (Sum.elim (fun t_655 => Walk Go.Proofs.Tryd.prog 9 (Cfg.mk Mode.run ((seqTodo Go.Proofs.Tryd.prog 9 7).drop 8) (St.mk [jj, AV.ptr (0 : Nat) (0 : Nat), jj, jj, jj, jj, jj, jj, jj, jj, jj, jj, jj, jj, jj, jj, jj, jj, jj, jj, jj, jj, jj, jj, jj, jj, jj, jj, jj, jj, jj, jj, jj, jj, jj, jj, jj, jj, jj, jj, jj, jj, jj, jj, jj, jj, jj, jj, jj, jj, jj, jj, jj, jj, jj, jj, jj, jj, jj, jj, jj, jj, jj, jj, jj, jj, jj, jj, jj, jj, jj, jj, jj, jj, jj, jj, jj, jj, jj, jj] [AO.box [AV.int IntKind.i64 a_608, AV.str a_609, AV.str a_610, AV.str a_611, AV.int IntKind.i64 a_612, AV.int IntKind.i64 a_613, AV.int IntKind.i64 a_614, AV.int IntKind.i64 a_615, AV.bool a_616, AV.bool a_617, AV.list (Ty.prod Ty.str Ty.str) a_618 Bool.false, AV.list Ty.str a_619 Bool.false]] (0 : Nat))) (pack_Act_res r) (pack_Act_out r)) (fun t_656 => Walk Go.Proofs.Tryd.prog 9 (Cfg.mk Mode.run ((seqTodo Go.Proofs.Tryd.prog 9 7).drop 10) (St.mk [jj, jj, jj, jj, jj, jj, jj, jj, jj, jj, jj, jj, jj, jj, jj, jj, jj, jj, jj, jj, jj, jj, jj, jj, jj, jj, jj, jj, jj, jj, jj, jj, jj, jj, jj, jj, jj, jj, jj, jj, jj, jj, jj, jj, jj, jj, jj, jj, jj, jj, jj, jj, jj, jj, jj, jj, jj, jj, jj, jj, jj, jj, jj, jj, jj, jj, jj, jj, jj, jj, jj, jj, jj, jj, jj, jj, jj, jj, jj, jj] [] (0 : Nat))) (pack_Act_res r) (pack_Act_out r)))))))) t) h669 (fun t h669 => ?_) (fun t658 h658 K658 => ?_)
    ·
      rcases t with t_647 | t_648 | t_650 | t_653 | t_654 | t_655 | t_656
      · replace h669 := W.inl (h669)
        refine W.elimL (?_)
        cases h669; exact K669
      · replace h669 := W.inl (W.inr (h669))
        refine W.elimR (W.elimL (?_))
        refine W.bind h669 fun a_649 ha_649 h669 => ?_
        refine W.call 7 100000 (by kernel_rfl) (pack_place_con ha_649) (by kernel_rfl) ?_
        cases h669; exact W.retK 7 100000 K669 (by kernel_rfl)
      · replace h669 := W.inl (W.inr (W.inr (h669)))
        refine W.elimR (W.elimR (W.elimL (?_)))
        refine W.bind h669 fun a_651 ha_651 h669 => ?_
        refine W.call 7 100000 (by kernel_rfl) (pack_link_con ha_651) (by kernel_rfl) ?_
        refine W.cond 7 100000 h669 (by kernel_rfl) (fun h669 => ?_) (fun h669 => ?_)
        ·
          refine W.yes 7 100000 (by kernel_rfl) ?_
          refine W.yes 7 100000 (by kernel_rfl) ?_
          refine W.yes 7 100000 (by kernel_rfl) ?_
          refine W.yes 7 100000 (by kernel_rfl) ?_
          refine W.yes 7 100000 (by kernel_rfl) ?_
          refine W.yes 7 100000 (by kernel_rfl) ?_
          refine W.yes 7 100000 (by kernel_rfl) ?_
          refine W.yes 7 100000 (by kernel_rfl) ?_
          refine W.yes 7 100000 (by kernel_rfl) ?_
          refine W.yes 7 100000 (by kernel_rfl) ?_
          refine W.yes 7 100000 (by kernel_rfl) ?_
          refine W.yes 7 100000 (by kernel_rfl) ?_
          cases h669; exact W.retK 7 100000 K669 (by kernel_rfl)
        ·
          refine W.no 7 100000 (by kernel_rfl) ?_
          refine W.no 7 100000 (by kernel_rfl) ?_
          refine W.no 7 100000 (by kernel_rfl) ?_
          refine W.cond 7 100000 h669 (by kernel_rfl) (fun h669 => ?_) (fun h669 => ?_)
          ·
            refine W.yes 7 100000 (by kernel_rfl) ?_
            refine W.yes 7 100000 (by kernel_rfl) ?_
            refine W.yes 7 100000 (by kernel_rfl) ?_
            refine W.yes 7 100000 (by kernel_rfl) ?_
            refine W.yes 7 100000 (by kernel_rfl) ?_
            refine W.yes 7 100000 (by kernel_rfl) ?_
            refine W.yes 7 100000 (by kernel_rfl) ?_
            refine W.yes 7 100000 (by kernel_rfl) ?_
            cases h669; exact W.retK 7 100000 K669 (by kernel_rfl)
          ·
            refine W.no 7 100000 (by kernel_rfl) ?_
            refine W.no 7 100000 (by kernel_rfl) ?_
            refine W.no 7 100000 (by kernel_rfl) ?_
            refine W.cond 7 100000 h669 (by kernel_rfl) (fun h669 => ?_) (fun h669 => ?_)
            ·
              refine W.yes 7 100000 (by kernel_rfl) ?_
              refine W.yes 7 100000 (by kernel_rfl) ?_
              refine W.yes 7 100000 (by kernel_rfl) ?_
              refine W.yes 7 100000 (by kernel_rfl) ?_
              cases h669; exact W.retK 7 100000 K669 (by kernel_rfl)
            ·
              refine W.no 7 100000 (by kernel_rfl) ?_
              refine W.bind h669 fun a_652 ha_652 h669 => ?_
              refine W.call 7 100000 (by kernel_rfl) (pack_slaves_con ha_652) (by kernel_rfl) ?_
              refine W.no 7 100000 (by kernel_rfl) ?_
              refine W.no 7 100000 (by kernel_rfl) ?_
              refine W.cond 7 100000 h669 (by kernel_rfl) (fun h669 => ?_) (fun h669 => ?_)
              ·
                cases h669; exact W.retK 7 100000 K669 (by kernel_rfl)
              ·
                cases h669; exact W.at 7 100000 [] [1] (by kernel_rfl) K669
      · replace h669 := W.inl (W.inr (W.inr (W.inr (h669))))
        refine W.elimR (W.elimR (W.elimR (W.elimL (?_))))
        cases h669; exact W.at 7 100000 [] [1] (by kernel_rfl) K669
      · replace h669 := W.inl (W.inr (W.inr (W.inr (W.inr (h669)))))
        refine W.elimR (W.elimR (W.elimR (W.elimR (W.elimL (?_)))))
        cases h669; exact W.at 7 100000 [] [1] (by kernel_rfl) K669
      · replace h669 := W.inl (W.inr (W.inr (W.inr (W.inr (W.inr (h669))))))
        refine W.elimR (W.elimR (W.elimR (W.elimR (W.elimR (W.elimL (?_))))))
        cases h669; exact W.at 7 100000 [] [1] (by kernel_rfl) K669
      · replace h669 := W.inr (W.inr (W.inr (W.inr (W.inr (W.inr (h669))))))
        refine W.elimR (W.elimR (W.elimR (W.elimR (W.elimR (W.elimR (?_))))))
        cases h669; exact W.at 7 100000 [] [] (by kernel_rfl) K669
    · refine W.next 7 4 (by kernel_rfl) ?_
      refine W.join (fun t => (Sum.elim (fun t_633 => r = (Bool.false)) (Sum.elim (fun t_634 => Walk Go.Proofs.Tryd.prog 9 (Cfg.mk Mode.run (seqTodo Go.Proofs.Tryd.prog 9 9) (St.mk [jj, AV.ptr (0 : Nat) (0 : Nat), jj, jj, jj, jj, jj, jj, jj, jj, jj, jj, jj, jj, jj, jj, jj, jj, jj, jj, jj, jj, jj, jj, jj, jj, jj, jj, jj, jj, jj, jj, jj, jj, jj, jj, jj, jj, jj, jj, jj, jj, jj, jj, jj, jj, jj, jj, jj, jj, jj, jj, jj, jj, jj, jj, jj, jj, jj, jj, jj, jj, jj, jj, jj, jj, jj, jj, jj, jj, jj, jj, jj, jj, jj, jj, jj, jj, jj, jj] [AO.box [AV.int IntKind.i64 a_608, AV.str a_609, AV.str a_610, AV.str a_611, AV.int IntKind.i64 a_612, AV.int IntKind.i64 a_613, AV.int IntKind.i64 a_614, AV.int IntKind.i64 a_615, AV.bool a_616, AV.bool a_617, AV.list (Ty.prod Ty.str Ty.str) a_618 Bool.false, AV.list Ty.str a_619 Bool.false]] (0 : Nat))) (pack_Act_res r) (pack_Act_out r)) (Sum.elim (fun t_637 => Walk Go.Proofs.Tryd.prog 9 (Cfg.mk Mode.run ((seqTodo Go.Proofs.Tryd.prog 9 9).drop 2) (St.mk [jj, AV.ptr (0 : Nat) (0 : Nat), jj, jj, jj, jj, jj, jj, jj, jj, jj, jj, jj, jj, jj, jj, jj, jj, jj, jj, jj, jj, jj, jj, jj, jj, jj, jj, jj, jj, jj, jj, jj, jj, jj, jj, jj, jj, jj, jj, jj, jj, jj, jj, jj, jj, jj, jj, jj, jj, jj, jj, jj, jj, jj, jj, jj, jj, jj, jj, jj, jj, jj, jj, jj, jj, jj, jj, jj, jj, jj, jj, jj, jj, jj, jj, jj, jj, jj, jj] [AO.box [AV.int IntKind.i64 a_608, AV.str a_609, AV.str a_610, AV.str a_611, AV.int IntKind.i64 a_612, AV.int IntKind.i64 a_613, AV.int IntKind.i64 a_614, AV.int IntKind.i64 a_615, AV.bool a_616, AV.bool a_617, AV.list (Ty.prod Ty.str Ty.str) a_618 Bool.false, AV.list Ty.str a_619 Bool.false]] (0 : Nat))) (pack_Act_res r) (pack_Act_out r)) (Sum.elim (fun t_639 => Walk Go.Proofs.Tryd.prog 9 (Cfg.mk Mode.run ((seqTodo Go.Proofs.Tryd.prog 9 9).drop 4) (St.mk [jj, AV.ptr (0 : Nat) (0 : Nat), jj, jj, jj, jj, jj, jj, jj, jj, jj, jj, jj, jj, jj, jj, jj, jj, jj, jj, jj, jj, jj, jj, jj, jj, jj, jj, jj, jj, jj, jj, jj, jj, jj, jj, jj, jj, jj, jj, jj, jj, jj, jj, jj, jj, jj, jj, jj, jj, jj, jj, jj, jj, jj, jj, jj, jj, jj, jj, jj, jj, jj, jj, jj, jj, jj, jj, jj, jj, jj, jj, jj, jj, jj, jj, jj, jj, jj, jj] [AO.box [AV.int IntKind.i64 a_608, AV.str a_609, AV.str a_610, AV.str a_611, AV.int IntKind.i64 a_612, AV.int IntKind.i64 a_613, AV.int IntKind.i64 a_614, AV.int IntKind.i64 a_615, AV.bool a_616, AV.bool a_617, AV.list (Ty.prod Ty.str Ty.str) a_618 Bool.false, AV.list Ty.str a_619 Bool.false]] (0 : Nat))) (pack_Act_res r) (pack_Act_out r)) (Sum.elim (fun t_640 => Walk Go.Proofs.Tryd.prog 9 (Cfg.mk Mode.run ((seqTodo Go.Proofs.Tryd.prog 9 9).drop 6) (St.mk [jj, AV.ptr (0 : Nat) (0 : Nat), jj, jj, jj, jj, jj, jj, jj, jj, jj, jj, jj, jj, jj, jj, jj, jj, jj, jj, jj, jj, jj, jj, jj, jj, jj, jj, jj, jj, jj, jj, jj, jj, jj, jj, jj, jj, jj, jj, jj, jj, jj, jj, jj, jj, jj, jj, jj, jj, jj, jj, jj, jj, jj, jj, jj, jj, jj, jj, jj, jj, jj, jj, jj, jj, jj, jj, jj, jj, jj, jj, jj, jj, jj, jj, jj, jj, jj, jj] [AO.box [AV.int IntKind.i64 a_608, AV.str a_609, AV.str a_610, AV.str a_611, AV.int IntKind.i64 a_612, AV.int IntKind.i64 a_613, AV.int IntKind.i64 a_614, AV.int IntKind.i64 a_615, AV.bool a_616, AV.bool a_617, AV.list (Ty.prod Ty.str Ty.str) a_618 Bool.false, AV.list Ty.str a_619 Bool.false]] (0 : Nat))) (pack_Act_res r) (pack_Act_out r)) (Sum.elim (fun t_641 => Walk Go.Proofs.Tryd.prog 9 (Cfg.mk Mode.run ((seqTodo Go.Proofs.Tryd.prog 9 9).drop 8) (St.mk [jj, AV.ptr (0 : Nat) (0 : Nat), jj, jj, jj, jj, jj, jj, jj, jj, jj, jj, jj, jj, jj, jj, jj, jj, jj, jj, jj, jj, jj, jj, jj, jj, jj, jj, jj, jj, jj, jj, jj, jj, jj, jj, jj, jj, jj, jj, jj, jj, jj, jj, jj, jj, jj, jj, jj, jj, jj, jj, jj, jj, jj, jj, jj, jj, jj, jj, jj, jj, jj, jj, jj, jj, jj, jj, jj, jj, jj, jj, jj, jj, jj, jj, jj, jj, jj, jj] [AO.box [AV.int IntKind.i64 a_608, AV.str a_609, AV.str a_610, AV.str a_611, AV.int IntKind.i64 a_612, AV.int IntKind.i64 a_613, AV.int IntKind.i64 a_614, AV.int IntKind.i64 a_615, AV.bool a_616, AV.bool a_617, AV.list (Ty.prod Ty.str Ty.str) a_618 Bool.false, AV.list Ty.str a_619 Bool.false]] (0 : Nat))) (pack_Act_res r) (pack_Act_out r)) (Sum.elim (fun t_642 => Walk Go.Proofs.Tryd.prog 9 (Cfg.mk Mode.run ((seqTodo Go.Proofs.Tryd.prog 9 9).drop 10) (St.mk [jj, AV.ptr (0 : Nat) (0 : Nat), jj, jj, jj, jj, jj, jj, jj, jj, jj, jj, jj, jj, jj, jj, jj, jj, jj, jj, jj, jj, jj, jj, jj, jj, jj, jj, jj, jj, jj, jj, jj, jj, jj, jj, jj, jj, jj, jj, jj, jj, jj, jj, jj, jj, jj, jj, jj, jj, jj, jj, jj, jj, jj, jj, jj, jj, jj, jj, jj, jj, jj, jj, jj, jj, jj, jj, jj, jj, jj, jj, jj, jj, jj, jj, jj, jj, jj, jj] [AO.box [AV.int IntKind.i64 a_608, AV.str a_609, AV.str a_610, AV.str a_611, AV.int IntKind.i64 a_612, AV.int IntKind.i64 a_613, AV.int IntKind.i64 a_614, AV.int IntKind.i64 a_615, AV.bool a_616, AV.bool a_617, AV.list (Ty.prod Ty.str Ty.str) a_618 Bool.false, AV.list Ty.str a_619 Bool.false]] (0 : Nat))) (pack_Act_res r) (pack_Act_out r)) (Sum.elim (fun t_643 => Walk Go.Proofs.Tryd.prog 9 (Cfg.mk Mode.run ((seqTodo Go.Proofs.Tryd.prog 9 9).drop 12) (St.mk [jj, AV.ptr (0 : Nat) (0 : Nat), jj, jj, jj, jj, jj, jj, jj, jj, jj, jj, jj, jj, jj, jj, jj, jj, jj, jj, jj, jj, jj, jj, jj, jj, jj, jj, jj, jj, jj, jj, jj, jj, jj, jj, jj, jj, jj, jj, jj, jj, jj, jj, jj, jj, jj, jj, jj, jj, jj, jj, jj, jj, jj, jj, jj, jj, jj, jj, jj, jj, jj, jj, jj, jj, jj, jj, jj, jj, jj, jj, jj, jj, jj, jj, jj, jj, jj, jj] [AO.box [AV.int IntKind.i64 a_608, AV.str a_609, AV.str a_610, AV.str a_611, AV.int IntKind.i64 a_612, AV.int IntKind.i64 a_613, AV.int IntKind.i64 a_614, AV.int IntKind.i64 a_615, AV.bool a_616, AV.bool a_617, AV.list (Ty.prod Ty.str Ty.str) a_618 Bool.false, AV.list Ty.str a_619 Bool.false]] (0 : Nat))) (pack_Act_res r) (pack_Act_out r)) (fun t_644 => Walk Go.Proofs.Tryd.prog 9 (Cfg.mk Mode.run ((seqTodo Go.Proofs.Tryd.prog 9 9).drop 14) (St.mk [jj, jj, jj, jj, jj, jj, jj, jj, jj, jj, jj, jj, jj, jj, jj, jj, jj, jj, jj, jj, jj, jj, jj, jj, jj, jj, jj, jj, jj, jj, jj, jj, jj, jj, jj, jj, jj, jj, jj, jj, jj, jj, jj, jj, jj, jj, jj, jj, jj, jj, jj, jj, jj, jj, jj, jj, jj, jj, jj, jj, jj, jj, jj, jj, jj, jj, jj, jj, jj, jj, jj, jj, jj, jj, jj, jj, jj, jj, jj, jj] [] (0 : Nat))) (pack_Act_res r) (pack_Act_out r)))))))))) t) h658 (fun t h658 => ?_) (fun t646 h646 K646 => ?_)
      ·
        rcases t with t_633 | t_634 | t_637 | t_639 | t_640 | t_641 | t_642 | t_643 | t_644
        · replace h658 := W.inl (h658)
          refine W.elimL (?_)
          cases h658; exact K658
        · replace h658 := W.inl (W.inr (h658))
          refine W.elimR (W.elimL (?_))
          refine W.bind h658 fun a_635 ha_635 h658 => ?_
          refine W.call 11 100000 (by kernel_rfl) (pack_place_con ha_635) (by kernel_rfl) ?_
          refine W.cond 11 100000 h658 (by kernel_rfl) (fun h658 => ?_) (fun h658 => ?_)
          ·
            refine W.yes 11 100000 (by kernel_rfl) ?_
            refine W.yes 11 100000 (by kernel_rfl) ?_
            refine W.bind h658 fun a_636 ha_636 h658 => ?_
            refine W.call 11 100000 (by kernel_rfl) (pack_by_con ha_636) (by kernel_rfl) ?_
            refine W.yes 11 100000 (by kernel_rfl) ?_
            cases h658; exact W.retK 11 100000 K658 (by kernel_rfl)
          ·
            refine W.no 11 100000 (by kernel_rfl) ?_
            refine W.no 11 100000 (by kernel_rfl) ?_
            refine W.no 11 100000 (by kernel_rfl) ?_
            cases h658; exact W.retK 11 100000 K658 (by kernel_rfl)
        · replace h658 := W.inl (W.inr (W.inr (h658)))
          refine W.elimR (W.elimR (W.elimL (?_)))
          refine W.bind h658 fun a_638 ha_638 h658 => ?_
          refine W.call 11 100000 (by kernel_rfl) (bits_Right_con ha_638) (by kernel_rfl) ?_
          refine W.cond 11 100000 h658 (by kernel_rfl) (fun h658 => ?_) (fun h658 => ?_)
          ·
            cases h658; exact W.retK 11 100000 K658 (by kernel_rfl)
          ·
            cases h658; exact W.at 11 100000 [] [1] (by kernel_rfl) K658
        · replace h658 := W.inl (W.inr (W.inr (W.inr (h658))))
          refine W.elimR (W.elimR (W.elimR (W.elimL (?_))))
          cases h658; exact W.at 11 100000 [] [1] (by kernel_rfl) K658
        · replace h658 := W.inl (W.inr (W.inr (W.inr (W.inr (h658)))))
          refine W.elimR (W.elimR (W.elimR (W.elimR (W.elimL (?_)))))
          cases h658; exact W.at 11 100000 [] [1] (by kernel_rfl) K658
        · replace h658 := W.inl (W.inr (W.inr (W.inr (W.inr (W.inr (h658))))))
          refine W.elimR (W.elimR (W.elimR (W.elimR (W.elimR (W.elimL (?_))))))
          cases h658; exact W.at 11 100000 [] [1] (by kernel_rfl) K658
        · replace h658 := W.inl (W.inr (W.inr (W.inr (W.inr (W.inr (W.inr (h658)))))))
          refine W.elimR (W.elimR (W.elimR (W.elimR (W.elimR (W.elimR (W.elimL (?_)))))))
          cases h658; exact W.at 11 100000 [] [1] (by kernel_rfl) K658
        · replace h658 := W.inl (W.inr (W.inr (W.inr (W.inr (W.inr (W.inr (W.inr (h658))))))))
          refine W.elimR (W.elimR (W.elimR (W.elimR (W.elimR (W.elimR (W.elimR (W.elimL (?_))))))))
          cases h658; exact W.at 11 100000 [] [1] (by kernel_rfl) K658
        · replace h658 := W.inr (W.inr (W.inr (W.inr (W.inr (W.inr (W.inr (W.inr (h658))))))))
          refine W.elimR (W.elimR (W.elimR (W.elimR (W.elimR (W.elimR (W.elimR (W.elimR (?_))))))))
          cases h658; exact W.at 11 100000 [] [] (by kernel_rfl) K658
      · refine W.next 11 4 (by kernel_rfl) ?_
        refine W.cond 15 100000 h646 (by kernel_rfl) (fun h646 => ?_) (fun h646 => ?_)
        ·
          refine W.cond 15 100000 h646 (by kernel_rfl) (fun h646 => ?_) (fun h646 => ?_)
          ·
            refine W.yes 15 100000 (by kernel_rfl) ?_
            refine W.yes 15 100000 (by kernel_rfl) ?_
            refine W.bind h646 fun a_620 ha_620 h646 => ?_
            refine W.call 15 100000 (by kernel_rfl) (pack_place_con ha_620) (by kernel_rfl) ?_
            refine W.yes 15 100000 (by kernel_rfl) ?_
            refine W.yes 15 100000 (by kernel_rfl) ?_
            refine W.cond 15 100000 h646 (by kernel_rfl) (fun h646 => ?_) (fun h646 => ?_)
            ·
              cases h646; exact W.retK 15 100000 K646 (by kernel_rfl)
            ·
              cases h646; exact W.at 15 100000 [] [1] (by kernel_rfl) K646
          ·
            refine W.no 15 100000 (by kernel_rfl) ?_
            refine W.no 15 100000 (by kernel_rfl) ?_
            refine W.no 15 100000 (by kernel_rfl) ?_
            refine W.no 15 100000 (by kernel_rfl) ?_
            refine W.no 15 100000 (by kernel_rfl) ?_
            cases h646; exact W.at 15 100000 [] [1] (by kernel_rfl) K646
        ·
          refine W.cond 15 100000 h646 (by kernel_rfl) (fun h646 => ?_) (fun h646 => ?_)
          ·
            cases h646; exact W.at 15 100000 [] [1] (by kernel_rfl) K646
          ·
            refine W.cond 15 100000 h646 (by kernel_rfl) (fun h646 => ?_) (fun h646 => ?_)
            ·
              cases h646; exact W.at 15 100000 [] [1] (by kernel_rfl) K646
            ·
              refine W.cond 15 100000 h646 (by kernel_rfl) (fun h646 => ?_) (fun h646 => ?_)
              ·
                cases h646; exact W.at 15 100000 [] [1] (by kernel_rfl) K646
              ·
                refine W.cond 15 100000 h646 (by kernel_rfl) (fun h646 => ?_) (fun h646 => ?_)
                ·
                  cases h646; exact W.at 15 100000 [] [1] (by kernel_rfl) K646
                ·
                  refine W.join (fun t => (Sum.elim (fun t_624 => Walk Go.Proofs.Tryd.prog 9 (Cfg.mk Mode.run ((seqTodo Go.Proofs.Tryd.prog 9 22).drop 13) (St.mk [jj, AV.ptr (0 : Nat) (0 : Nat), jj, jj, jj, jj, jj, jj, jj, jj, jj, jj, jj, jj, jj, jj, jj, jj, jj, jj, jj, jj, jj, jj, jj, jj, jj, jj, jj, jj, jj, jj, jj, jj, jj, jj, jj, jj, jj, jj, jj, jj, jj, jj, jj, jj, jj, jj, jj, jj, jj, jj, jj, jj, jj, jj, jj, jj, jj, jj, jj, jj, jj, jj, jj, jj, jj, jj, jj, jj, jj, jj, jj, jj, jj, jj, jj, jj, jj, jj] [AO.box [AV.int IntKind.i64 a_608, AV.str a_609, AV.str a_610, AV.str a_611, AV.int IntKind.i64 a_612, AV.int IntKind.i64 a_613, AV.int IntKind.i64 a_614, AV.int IntKind.i64 a_615, AV.bool a_616, AV.bool a_617, AV.list (Ty.prod Ty.str Ty.str) a_618 Bool.false, AV.list Ty.str a_619 Bool.false]] (0 : Nat))) (pack_Act_res r) (pack_Act_out r)) (fun t_625 => Walk Go.Proofs.Tryd.prog 9 (Cfg.mk Mode.run (seqTodo Go.Proofs.Tryd.prog 9 22) (St.mk [jj, AV.ptr (0 : Nat) (0 : Nat), jj, jj, AV.int IntKind.i64 a_608, jj, jj, jj, jj, jj, jj, jj, jj, jj, jj, jj, jj, jj, jj, jj, jj, jj, jj, jj, jj, jj, jj, jj, jj, jj, jj, jj, jj, jj, jj, jj, jj, jj, jj, jj, jj, jj, jj, jj, jj, jj, jj, jj, jj, jj, jj, jj, jj, jj, jj, jj, jj, jj, jj, jj, jj, jj, jj, jj, jj, jj, jj, jj, jj, jj, jj, jj, jj, jj, jj, jj, jj, jj, jj, jj] [AO.box [AV.int IntKind.i64 a_608, AV.str a_609, AV.str a_610, AV.str a_611, AV.int IntKind.i64 a_612, AV.int IntKind.i64 a_613, AV.int IntKind.i64 a_614, AV.int IntKind.i64 a_615, AV.bool a_616, AV.bool a_617, AV.list (Ty.prod Ty.str Ty.str) a_618 Bool.false, AV.list Ty.str a_619 Bool.false]] (0 : Nat))) (pack_Act_res r) (pack_Act_out r))) t) h646 (fun t h646 => ?_) (fun t633 h633 K633 => ?_)
                  ·
                    rcases t with t_624 | t_625
                    · replace h646 := W.inl (h646)
                      refine W.elimL (?_)
                      cases h646; exact W.at 15 100000 [] [1] (by kernel_rfl) K646
                    · replace h646 := W.inr (h646)
                      refine W.elimR (?_)
                      refine W.join (fun t => (Sum.elim (fun t_629 => Walk Go.Proofs.Tryd.prog 9 (Cfg.mk Mode.run ((seqTodo Go.Proofs.Tryd.prog 9 25).drop 15) (St.mk [jj, AV.ptr (0 : Nat) (0 : Nat), jj, jj, jj, jj, jj, jj, jj, jj, jj, jj, jj, jj, jj, jj, jj, jj, jj, jj, jj, jj, jj, jj, jj, jj, jj, jj, jj, jj, jj, jj, jj, jj, jj, jj, jj, jj, jj, jj, jj, jj, jj, jj, jj, jj, jj, jj, jj, jj, jj, jj, jj, jj, jj, jj, jj, jj, jj, jj, jj, jj, jj, jj, jj, jj, jj, jj, jj, jj, jj, jj, jj, jj, jj, jj, jj, jj, jj, jj] [AO.box [AV.int IntKind.i64 a_608, AV.str a_609, AV.str a_610, AV.str a_611, AV.int IntKind.i64 a_612, AV.int IntKind.i64 a_613, AV.int IntKind.i64 a_614, AV.int IntKind.i64 a_615, AV.bool a_616, AV.bool a_617, AV.list (Ty.prod Ty.str Ty.str) a_618 Bool.false, AV.list Ty.str a_619 Bool.false]] (0 : Nat))) (pack_Act_res r) (pack_Act_out r)) (fun t_630 => Walk Go.Proofs.Tryd.prog 9 (Cfg.mk Mode.run (seqTodo Go.Proofs.Tryd.prog 9 25) (St.mk [jj, AV.ptr (0 : Nat) (0 : Nat), jj, jj, AV.int IntKind.i64 a_608, jj, jj, jj, jj, jj, jj, jj, jj, jj, jj, jj, jj, jj, jj, jj, jj, jj, jj, jj, jj, jj, jj, jj, jj, jj, jj, jj, jj, jj, jj, jj, jj, jj, jj, jj, jj, jj, jj, jj, jj, jj, jj, jj, jj, jj, jj, jj, jj, jj, jj, jj, jj, jj, jj, jj, jj, jj, jj, jj, jj, jj, jj, jj, jj, jj, jj, jj, jj, jj, jj, jj, jj, jj, jj, jj] [AO.box [AV.int IntKind.i64 a_608, AV.str a_609, AV.str a_610, AV.str a_611, AV.int IntKind.i64 a_612, AV.int IntKind.i64 a_613, AV.int IntKind.i64 a_614, AV.int IntKind.i64 a_615, AV.bool a_616, AV.bool a_617, AV.list (Ty.prod Ty.str Ty.str) a_618 Bool.false, AV.list Ty.str a_619 Bool.false]] (0 : Nat))) (pack_Act_res r) (pack_Act_out r))) t) h646 (fun t h646 => ?_) (fun t632 h632 K632 => ?_)
                      ·
                        rcases t with t_629 | t_630
                        · replace h646 := W.inl (h646)
                          refine W.elimL (?_)
                          cases h646; exact W.at 15 100000 [] [1] (by kernel_rfl) K646
                        · replace h646 := W.inr (h646)
                          refine W.elimR (?_)
                          refine W.cond 15 100000 h646 (by kernel_rfl) (fun h646 => ?_) (fun h646 => ?_)
                          ·
                            cases h646; exact W.at 15 100000 [] [1] (by kernel_rfl) K646
                          ·
                            cases h646; exact W.at 15 100000 [] [] (by kernel_rfl) K646
                      · refine W.next 15 1 (by kernel_rfl) ?_
                        refine W.join (fun t_627 => Walk Go.Proofs.Tryd.prog 9 (Cfg.mk Mode.run (seqTodo Go.Proofs.Tryd.prog 9 26) (St.mk [jj, AV.ptr (0 : Nat) (0 : Nat), jj, jj, AV.int IntKind.i64 a_608, jj, jj, jj, jj, jj, jj, jj, jj, jj, jj, jj, jj, jj, AV.bool t_627, jj, jj, jj, jj, jj, jj, jj, jj, jj, jj, jj, jj, jj, jj, jj, jj, jj, jj, jj, jj, jj, jj, jj, jj, jj, jj, jj, jj, jj, jj, jj, jj, jj, jj, jj, jj, jj, jj, jj, jj, jj, jj, jj, jj, jj, jj, jj, jj, jj, jj, jj, jj, jj, jj, jj, jj, jj, jj, jj, jj, jj] [AO.box [AV.int IntKind.i64 a_608, AV.str a_609, AV.str a_610, AV.str a_611, AV.int IntKind.i64 a_612, AV.int IntKind.i64 a_613, AV.int IntKind.i64 a_614, AV.int IntKind.i64 a_615, AV.bool a_616, AV.bool a_617, AV.list (Ty.prod Ty.str Ty.str) a_618 Bool.false, AV.list Ty.str a_619 Bool.false]] (0 : Nat))) (pack_Act_res r) (pack_Act_out r)) h632 (fun t_627 h632 => ?_) (fun t629 h629 K629 => ?_)
                        ·
                          refine W.cond 20 100000 h632 (by kernel_rfl) (fun h632 => ?_) (fun h632 => ?_)
                          ·
                            cases h632; exact W.at 20 100000 [] [1] (by kernel_rfl) K632
                          ·
                            cases h632; exact W.at 20 100000 [] [1, 4] (by kernel_rfl) K632
                        · refine W.next 20 1 (by kernel_rfl) ?_
                          refine W.cond 21 100000 h629 (by kernel_rfl) (fun h629 => ?_) (fun h629 => ?_)
                          ·
                            cases h629; exact W.at 21 100000 [] [1, 4, 18] (by kernel_rfl) K629
                          ·
                            cases h629; exact W.at 21 100000 [] [1, 4, 18] (by kernel_rfl) K629
                  · refine W.next 15 2 (by kernel_rfl) ?_
                    refine W.join (fun t_622 => Walk Go.Proofs.Tryd.prog 9 (Cfg.mk Mode.run (seqTodo Go.Proofs.Tryd.prog 9 23) (St.mk [jj, AV.ptr (0 : Nat) (0 : Nat), jj, jj, AV.int IntKind.i64 a_608, jj, jj, jj, jj, jj, jj, jj, jj, jj, jj, AV.bool t_622, jj, jj, jj, jj, jj, jj, jj, jj, jj, jj, jj, jj, jj, jj, jj, jj, jj, jj, jj, jj, jj, jj, jj, jj, jj, jj, jj, jj, jj, jj, jj, jj, jj, jj, jj, jj, jj, jj, jj, jj, jj, jj, jj, jj, jj, jj, jj, jj, jj, jj, jj, jj, jj, jj, jj, jj, jj, jj, jj, jj, jj, jj, jj, jj] [AO.box [AV.int IntKind.i64 a_608, AV.str a_609, AV.str a_610, AV.str a_611, AV.int IntKind.i64 a_612, AV.int IntKind.i64 a_613, AV.int IntKind.i64 a_614, AV.int IntKind.i64 a_615, AV.bool a_616, AV.bool a_617, AV.list (Ty.prod Ty.str Ty.str) a_618 Bool.false, AV.list Ty.str a_619 Bool.false]] (0 : Nat))) (pack_Act_res r) (pack_Act_out r)) h633 (fun t_622 h633 => ?_) (fun t624 h624 K624 => ?_)
                    ·
                      refine W.cond 20 100000 h633 (by kernel_rfl) (fun h633 => ?_) (fun h633 => ?_)
                      ·
                        cases h633; exact W.at 20 100000 [] [1] (by kernel_rfl) K633
                      ·
                        cases h633; exact W.at 20 100000 [] [1, 4] (by kernel_rfl) K633
                    · refine W.next 20 1 (by kernel_rfl) ?_
                      refine W.cond 21 100000 h624 (by kernel_rfl) (fun h624 => ?_) (fun h624 => ?_)
                      ·
                        cases h624; exact W.at 21 100000 [] [1, 4, 15] (by kernel_rfl) K624
                      ·
                        cases h624; exact W.at 21 100000 [] [1, 4, 15] (by kernel_rfl) K624

theorem pack_odd_con {a_596 : Int} {a_597 : List UInt8} {a_598 : List UInt8} {a_599 : List UInt8} {a_600 : Int} {a_601 : Int} {a_602 : Int} {a_603 : Int} {a_604 : Bool} {a_605 : Bool} {a_606 : List (List UInt8 × List UInt8)} {a_607 : List (List UInt8)} {r : Bool} (h : pack_odd a_596 a_597 a_598 a_599 a_600 a_601 a_602 a_603 a_604 a_605 a_606 a_607 = some r) : Con Go.Proofs.Tryd.prog 37 [AV.agg [AV.int IntKind.i64 a_596, AV.str a_597, AV.str a_598, AV.str a_599, AV.int IntKind.i64 a_600, AV.int IntKind.i64 a_601, AV.int IntKind.i64 a_602, AV.int IntKind.i64 a_603, AV.bool a_604, AV.bool a_605, AV.list (Ty.prod Ty.str Ty.str) a_606 Bool.false, AV.list Ty.str a_607 Bool.false]] [] (pack_odd_res r) (pack_odd_out r) := by
  refine W.con (by kernel_rfl) ?_
  unfold pack_odd at h
  refine W.bind h fun a_671 ha_671 h => ?_
  refine W.call 0 100000 (by kernel_rfl) (pack_Act_con ha_671) (by kernel_rfl) ?_
  exact W.retT 0 100000 h (by kernel_rfl)

theorem cellarerref19_Act_con {a_676 : Int} {a_677 : List UInt8} {a_678 : List UInt8} {a_679 : List UInt8} {a_680 : Int} {a_681 : Int} {a_682 : Int} {a_683 : Int} {a_684 : Bool} {a_685 : Bool} {a_686 : List (List UInt8 × List UInt8)} {a_687 : List (List UInt8)} {r : Bool} (h : cellarerref19_Act a_676 a_677 a_678 a_679 a_680 a_681 a_682 a_683 a_684 a_685 a_686 a_687 = some r) : Con Go.Proofs.Tryd.prog 10 [AV.agg [AV.int IntKind.i64 a_676, AV.str a_677, AV.str a_678, AV.str a_679, AV.int IntKind.i64 a_680, AV.int IntKind.i64 a_681, AV.int IntKind.i64 a_682, AV.int IntKind.i64 a_683, AV.bool a_684, AV.bool a_685, AV.list (Ty.prod Ty.str Ty.str) a_686 Bool.false, AV.list Ty.str a_687 Bool.false]] [] (cellarerref19_Act_res r) (cellarerref19_Act_out r) := by
  refine W.con (by kernel_rfl) ?_
  unfold cellarerref19_Act at h
  refine W.join (fun t_690 => Walk Go.Proofs.Tryd.prog 10 (Cfg.mk Mode.run (seqTodo Go.Proofs.Tryd.prog 10 1) (St.mk [jj, AV.ptr (0 : Nat) (0 : Nat), jj, AV.bool t_690, jj, jj, jj, jj, jj, jj, jj, jj, jj, jj, jj, jj, jj, jj, jj, jj, jj, jj, jj, jj, jj, jj, jj, jj, jj, jj, jj, jj, jj, jj, jj, jj, jj, jj, jj, jj, jj, jj, jj, jj, jj, jj, jj, jj, jj, jj, jj, jj, jj, jj, jj, jj, jj, jj, jj, jj, jj, jj, jj, jj, jj, jj, jj, jj, jj, jj, jj, jj, jj, jj, jj, jj, jj, jj, jj, jj, jj, jj, jj, jj, jj, jj, jj, jj, jj, jj, jj, jj, jj, jj, jj, jj, jj, jj, jj, jj, jj, jj, jj, jj, jj, jj, jj, jj, jj, jj, jj, jj, jj, jj, jj, jj, jj, jj, jj, jj, jj, jj, jj, jj, jj, jj, jj, jj, jj, jj, jj, jj, jj, jj, jj, jj, jj, jj, jj, jj, jj, jj, jj, jj, jj, jj, jj, jj, jj, jj, jj, jj, jj, jj, jj, jj, jj, jj, jj, jj, jj, jj, jj] [AO.box [AV.int IntKind.i64 a_676, AV.str a_677, AV.str a_678, AV.str a_679, AV.int IntKind.i64 a_680, AV.int IntKind.i64 a_681, AV.int IntKind.i64 a_682, AV.int IntKind.i64 a_683, AV.bool a_684, AV.bool a_685, AV.list (Ty.prod Ty.str Ty.str) a_686 Bool.false, AV.list Ty.str a_687 Bool.false]] (0 : Nat))) (cellarerref19_Act_res r) (cellarerref19_Act_out r)) h (fun t_690 h => ?_) (fun t733 h733 K733 => ?_)
  ·
    refine W.cond 0 100000 h (by kernel_rfl) (fun h => ?_) (fun h => ?_)
    ·
      refine W.bind h fun a_691 ha_691 h => ?_
      refine W.call 0 100000 (by kernel_rfl) (cellarerref19_Place_con ha_691) (by kernel_rfl) ?_
      refine W.cond 0 100000 h (by kernel_rfl) (fun h => ?_) (fun h => ?_)
      ·
        refine W.yes 0 100000 (by kernel_rfl) ?_
        refine W.cond 0 100000 h (by kernel_rfl) (fun h => ?_) (fun h => ?_)
        ·
          refine W.yes 0 100000 (by kernel_rfl) ?_
          refine W.yes 0 100000 (by kernel_rfl) ?_
          refine W.yes 0 100000 (by kernel_rfl) ?_
          refine W.cond 0 100000 h (by kernel_rfl) (fun h => ?_) (fun h => ?_)
          ·
            refine W.yes 0 100000 (by kernel_rfl) ?_
            refine W.yes 0 100000 (by kernel_rfl) ?_
            refine W.yes 0 100000 (by kernel_rfl) ?_
            refine W.yes 0 100000 (by kernel_rfl) ?_
            refine W.yes 0 100000 (by kernel_rfl) ?_
            exact W.retT 0 100000 h (by kernel_rfl)
          ·
            refine W.no 0 100000 (by kernel_rfl) ?_
            refine W.no 0 100000 (by kernel_rfl) ?_
            refine W.bind h fun a_692 ha_692 h => ?_
            refine W.call 0 100000 (by kernel_rfl) (cellarerref19_Place_con ha_692) (by kernel_rfl) ?_
            refine W.yes 0 100000 (by kernel_rfl) ?_
            refine W.no 0 100000 (by kernel_rfl) ?_
            refine W.yes 0 100000 (by kernel_rfl) ?_
            exact W.retT 0 100000 h (by kernel_rfl)
        ·
          refine W.no 0 100000 (by kernel_rfl) ?_
          refine W.no 0 100000 (by kernel_rfl) ?_
          refine W.no 0 100000 (by kernel_rfl) ?_
          refine W.no 0 100000 (by kernel_rfl) ?_
          refine W.no 0 100000 (by kernel_rfl) ?_
          exact W.retT 0 100000 h (by kernel_rfl)
      ·
        refine W.no 0 100000 (by kernel_rfl) ?_
        refine W.no 0 100000 (by kernel_rfl) ?_
        refine W.no 0 100000 (by kernel_rfl) ?_
        refine W.no 0 100000 (by kernel_rfl) ?_
        refine W.no 0 100000 (by kernel_rfl) ?_
        refine W.no 0 100000 (by kernel_rfl) ?_
        refine W.no 0 100000 (by kernel_rfl) ?_
        exact W.retT 0 100000 h (by kernel_rfl)
    ·
      refine W.cond 0 100000 h (by kernel_rfl) (fun h => ?_) (fun h => ?_)
      ·
        refine W.bind h fun a_693 ha_693 h => ?_
        refine W.call 0 100000 (by kernel_rfl) (cellarerref19_Place_con ha_693) (by kernel_rfl) ?_
        refine W.cond 0 100000 h (by kernel_rfl) (fun h => ?_) (fun h => ?_)
        ·
          refine W.yes 0 100000 (by kernel_rfl) ?_
          exact W.retT 0 100000 h (by kernel_rfl)
        ·
          refine W.no 0 100000 (by kernel_rfl) ?_
          exact W.retT 0 100000 h (by kernel_rfl)
      ·
        refine W.cond 0 100000 h (by kernel_rfl) (fun h => ?_) (fun h => ?_)
        ·
          refine W.bind h fun a_694 ha_694 h => ?_
          refine W.call 0 100000 (by kernel_rfl) (cellarerref19_Place_con ha_694) (by kernel_rfl) ?_
          refine W.cond 0 100000 h (by kernel_rfl) (fun h => ?_) (fun h => ?_)
          ·
            refine W.yes 0 100000 (by kernel_rfl) ?_
            refine W.yes 0 100000 (by kernel_rfl) ?_
            refine W.bind h fun a_695 ha_695 h => ?_
            refine W.call 0 100000 (by kernel_rfl) (cellarerref01_Right_con ha_695) (by kernel_rfl) ?_
            refine W.yes 0 100000 (by kernel_rfl) ?_
            exact W.retT 0 100000 h (by kernel_rfl)
          ·
            refine W.no 0 100000 (by kernel_rfl) ?_
            refine W.no 0 100000 (by kernel_rfl) ?_
            refine W.no 0 100000 (by kernel_rfl) ?_
            exact W.retT 0 100000 h (by kernel_rfl)
        ·
          refine W.cond 0 100000 h (by kernel_rfl) (fun h => ?_) (fun h => ?_)
          ·
            refine W.bind h fun a_696 ha_696 h => ?_
            refine W.call 0 100000 (by kernel_rfl) (cellarerref19_Place_con ha_696) (by kernel_rfl) ?_
            exact W.retT 0 100000 h (by kernel_rfl)
          ·
            refine W.cond 0 100000 h (by kernel_rfl) (fun h => ?_) (fun h => ?_)
            ·
              refine W.join (fun t => (Sum.elim (fun t_700 => r = (Bool.false)) (fun t_701 => Walk Go.Proofs.Tryd.prog 10 (Cfg.mk Mode.run (seqTodo Go.Proofs.Tryd.prog 10 13) (St.mk [jj, AV.ptr (0 : Nat) (0 : Nat), jj, jj, jj, jj, jj, jj, jj, jj, jj, jj, jj, jj, jj, jj, jj, jj, jj, jj, jj, jj, jj, jj, jj, jj, jj, jj, jj, jj, jj, jj, jj, jj, jj, jj, jj, jj, jj, jj, jj, jj, jj, jj, jj, jj, jj, jj, jj, jj, jj, jj, jj, jj, jj, jj, jj, jj, jj, jj, jj, jj, jj, jj, jj, jj, jj, jj, jj, jj, jj, jj, jj, jj, jj, jj, jj, jj, jj, jj, jj, jj, jj, jj, jj, jj, jj, jj, jj, jj, jj, jj, jj, jj, jj, jj, jj, jj, jj, jj, jj, jj, jj, jj, jj, jj, jj, jj, jj, jj, jj, jj, jj, jj, jj, jj, jj, jj, jj, jj, jj, jj, jj, jj, jj, jj, jj, jj, jj, jj, jj, jj, jj, jj, jj, jj, jj, jj, jj, jj, jj, jj, jj, jj, jj, jj, jj, jj, jj, jj, jj, jj, jj, jj, jj, jj, jj, jj, jj, jj, jj, jj, jj] [AO.box [AV.int IntKind.i64 a_676, AV.str a_677, AV.str a_678, AV.str a_679, AV.int IntKind.i64 a_680, AV.int IntKind.i64 a_681, AV.int IntKind.i64 a_682, AV.int IntKind.i64 a_683, AV.bool a_684, AV.bool a_685, AV.list (Ty.prod Ty.str Ty.str) a_686 Bool.false, AV.list Ty.str a_687 Bool.false]] (0 : Nat))) (cellarerref19_Act_res r) (cellarerref19_Act_out r))) t) h (fun t h => ?_) (fun t722 h722 K722 => ?_)
              ·
                rcases t with t_700 | t_701
                · replace h := W.inl (h)
                  refine W.elimL (?_)
                  exact (Option.some.inj h).symm
                · replace h := W.inr (h)
                  refine W.elimR (?_)
                  refine W.at 0 100000 [] [1, 4] (c' := (fun (s_736 : Int) => (Cfg.mk Mode.run (headTodo Go.Proofs.Tryd.prog 10 0) (St.mk [jj, AV.ptr (0 : Nat) (0 : Nat), jj, jj, AV.int IntKind.i64 s_736, jj, jj, jj, jj, jj, jj, jj, jj, jj, jj, jj, jj, jj, jj, jj, jj, jj, jj, jj, jj, jj, jj, jj, jj, jj, jj, jj, jj, jj, jj, jj, jj, jj, jj, jj, jj, jj, jj, jj, jj, jj, jj, jj, jj, jj, jj, jj, jj, jj, jj, jj, jj, jj, jj, jj, jj, jj, jj, jj, jj, jj, jj, jj, jj, jj, jj, jj, jj, jj, jj, jj, jj, jj, jj, jj, jj, jj, jj, jj, jj, jj, jj, jj, jj, jj, jj, jj, jj, jj, jj, jj, jj, jj, jj, jj, jj, jj, jj, jj, jj, jj, jj, jj, jj, jj, jj, jj, jj, jj, jj, jj, jj, jj, jj, jj, jj, jj, jj, jj, jj, jj, jj, jj, jj, jj, jj, jj, jj, jj, jj, jj, jj, jj, jj, jj, jj, jj, jj, jj, jj, jj, jj, jj, jj, jj, jj, jj, jj, jj, jj, jj, jj, jj, jj, jj, jj, jj, jj] [AO.box [AV.int IntKind.i64 a_676, AV.str a_677, AV.str a_678, AV.str a_679, AV.int IntKind.i64 a_680, AV.int IntKind.i64 a_681, AV.int IntKind.i64 a_682, AV.int IntKind.i64 a_683, AV.bool a_684, AV.bool a_685, AV.list (Ty.prod Ty.str Ty.str) a_686 Bool.false, AV.list Ty.str a_687 Bool.false]] (0 : Nat)))) ((0 : Int))) (by kernel_rfl) ?_
                  refine W.loop (fun (s_736 : Int) => (Cfg.mk Mode.run (headTodo Go.Proofs.Tryd.prog 10 0) (St.mk [jj, AV.ptr (0 : Nat) (0 : Nat), jj, jj, AV.int IntKind.i64 s_736, jj, jj, jj, jj, jj, jj, jj, jj, jj, jj, jj, jj, jj, jj, jj, jj, jj, jj, jj, jj, jj, jj, jj, jj, jj, jj, jj, jj, jj, jj, jj, jj, jj, jj, jj, jj, jj, jj, jj, jj, jj, jj, jj, jj, jj, jj, jj, jj, jj, jj, jj, jj, jj, jj, jj, jj, jj, jj, jj, jj, jj, jj, jj, jj, jj, jj, jj, jj, jj, jj, jj, jj, jj, jj, jj, jj, jj, jj, jj, jj, jj, jj, jj, jj, jj, jj, jj, jj, jj, jj, jj, jj, jj, jj, jj, jj, jj, jj, jj, jj, jj, jj, jj, jj, jj, jj, jj, jj, jj, jj, jj, jj, jj, jj, jj, jj, jj, jj, jj, jj, jj, jj, jj, jj, jj, jj, jj, jj, jj, jj, jj, jj, jj, jj, jj, jj, jj, jj, jj, jj, jj, jj, jj, jj, jj, jj, jj, jj, jj, jj, jj, jj, jj, jj, jj, jj, jj, jj] [AO.box [AV.int IntKind.i64 a_676, AV.str a_677, AV.str a_678, AV.str a_679, AV.int IntKind.i64 a_680, AV.int IntKind.i64 a_681, AV.int IntKind.i64 a_682, AV.int IntKind.i64 a_683, AV.bool a_684, AV.bool a_685, AV.list (Ty.prod Ty.str Ty.str) a_686 Bool.false, AV.list Ty.str a_687 Bool.false]] (0 : Nat)))) (fun t => (Sum.elim (fun t_718 => r = (Bool.false)) (fun t_719 => Walk Go.Proofs.Tryd.prog 10 (Cfg.mk Mode.run ((headTodo Go.Proofs.Tryd.prog 10 0).drop 3) (St.mk [jj, jj, jj, jj, jj, jj, jj, jj, jj, jj, jj, jj, jj, jj, jj, jj, jj, jj, jj, jj, jj, jj, jj, jj, jj, jj, jj, jj, jj, jj, jj, jj, jj, jj, jj, jj, jj, jj, jj, jj, jj, jj, jj, jj, jj, jj, jj, jj, jj, jj, jj, jj, jj, jj, jj, jj, jj, jj, jj, jj, jj, jj, jj, jj, jj, jj, jj, jj, jj, jj, jj, jj, jj, jj, jj, jj, jj, jj, jj, jj, jj, jj, jj, jj, jj, jj, jj, jj, jj, jj, jj, jj, jj, jj, jj, jj, jj, jj, jj, jj, jj, jj, jj, jj, jj, jj, jj, jj, jj, jj, jj, jj, jj, jj, jj, jj, jj, jj, jj, jj, jj, jj, jj, jj, jj, jj, jj, jj, jj, jj, jj, jj, jj, jj, jj, jj, jj, jj, jj, jj, jj, jj, jj, jj, jj, jj, jj, jj, jj, jj, jj, jj, jj, jj, jj, jj, jj, jj, jj, jj, jj, jj, jj] [] (0 : Nat))) (cellarerref19_Act_res r) (cellarerref19_Act_out r))) t) h (fun t h => ?_) (fun s_736 x721 h721 K721 => ?_)
                  ·
                    rcases t with t_718 | t_719
                    · replace h := W.inl (h)
                      refine W.elimL (?_)
                      exact (Option.some.inj h).symm
                    · replace h := W.inr (h)
                      refine W.elimR (?_)
                      exact W.retT 0 100000 h (by kernel_rfl)
                  · unfold cellarerref19_Act_b0 at h721
                    refine W.cond 4 100000 h721 (by kernel_rfl) (fun h721 => ?_) (fun h721 => ?_)
                    ·
                      refine W.needT 4 100000 h721 (by kernel_rfl) (fun h721 => ?_)
                      refine W.bind h721 fun a_715 ha_715 h721 => ?_
                      refine W.call 4 100000 (by kernel_rfl) (cellarerref19_Name_con ha_715) (by kernel_rfl) ?_
                      refine W.cond 4 100000 h721 (by kernel_rfl) (fun h721 => ?_) (fun h721 => ?_)
                      ·
                        refine W.yes 4 100000 (by kernel_rfl) ?_
                        refine W.yes 4 100000 (by kernel_rfl) ?_
                        refine W.yes 4 100000 (by kernel_rfl) ?_
                        refine W.yes 4 100000 (by kernel_rfl) ?_
                        refine W.yes 4 100000 (by kernel_rfl) ?_
                        refine W.yes 4 100000 (by kernel_rfl) ?_
                        refine W.yes 4 100000 (by kernel_rfl) ?_
                        refine W.yes 4 100000 (by kernel_rfl) ?_
                        refine W.yes 4 100000 (by kernel_rfl) ?_
                        refine W.yes 4 100000 (by kernel_rfl) ?_
                        refine W.yes 4 100000 (by kernel_rfl) ?_
                        refine W.yes 4 100000 (by kernel_rfl) ?_
                        refine W.yes 4 100000 (by kernel_rfl) ?_
                        refine W.yes 4 100000 (by kernel_rfl) ?_
                        refine W.yes 4 100000 (by kernel_rfl) ?_
                        refine W.yes 4 100000 (by kernel_rfl) ?_
                        refine W.yes 4 100000 (by kernel_rfl) ?_
                        refine W.yes 4 100000 (by kernel_rfl) ?_
                        cases h721; exact W.retK 4 100000 K721 (by kernel_rfl)
                      ·
                        refine W.no 4 100000 (by kernel_rfl) ?_
                        refine W.no 4 100000 (by kernel_rfl) ?_
                        refine W.no 4 100000 (by kernel_rfl) ?_
                        refine W.needT 4 100000 h721 (by kernel_rfl) (fun h721 => ?_)
                        refine W.no 4 100000 (by kernel_rfl) ?_
                        refine W.no 4 100000 (by kernel_rfl) ?_
                        refine W.no 4 100000 (by kernel_rfl) ?_
                        refine W.bind h721 fun a_716 ha_716 h721 => ?_
                        refine W.call 4 100000 (by kernel_rfl) (cellarerref19_Link_con ha_716) (by kernel_rfl) ?_
                        refine W.no 4 100000 (by kernel_rfl) ?_
                        refine W.no 4 100000 (by kernel_rfl) ?_
                        refine W.cond 4 100000 h721 (by kernel_rfl) (fun h721 => ?_) (fun h721 => ?_)
                        ·
                          refine W.yes 4 100000 (by kernel_rfl) ?_
                          refine W.yes 4 100000 (by kernel_rfl) ?_
                          refine W.yes 4 100000 (by kernel_rfl) ?_
                          refine W.yes 4 100000 (by kernel_rfl) ?_
                          refine W.yes 4 100000 (by kernel_rfl) ?_
                          refine W.yes 4 100000 (by kernel_rfl) ?_
                          refine W.yes 4 100000 (by kernel_rfl) ?_
                          refine W.yes 4 100000 (by kernel_rfl) ?_
                          refine W.yes 4 100000 (by kernel_rfl) ?_
                          cases h721; exact W.retK 4 100000 K721 (by kernel_rfl)
                        ·
                          refine W.no 4 100000 (by kernel_rfl) ?_
                          refine W.no 4 100000 (by kernel_rfl) ?_
                          refine W.no 4 100000 (by kernel_rfl) ?_
                          refine W.needT 4 100000 h721 (by kernel_rfl) (fun h721 => ?_)
                          refine W.no 4 100000 (by kernel_rfl) ?_
                          refine W.no 4 100000 (by kernel_rfl) ?_
                          refine W.no 4 100000 (by kernel_rfl) ?_
                          refine W.cond 4 100000 h721 (by kernel_rfl) (fun h721 => ?_) (fun h721 => ?_)
                          ·
                            refine W.yes 4 100000 (by kernel_rfl) ?_
                            refine W.yes 4 100000 (by kernel_rfl) ?_
                            refine W.yes 4 100000 (by kernel_rfl) ?_
                            refine W.needT 4 100000 h721 (by kernel_rfl) (fun h721 => ?_)
                            refine W.yes 4 100000 (by kernel_rfl) ?_
                            refine W.yes 4 100000 (by kernel_rfl) ?_
                            refine W.bind h721 fun a_717 ha_717 h721 => ?_
                            refine W.call 4 100000 (by kernel_rfl) (cellarerref19_Place_con ha_717) (by kernel_rfl) ?_
                            refine W.yes 4 100000 (by kernel_rfl) ?_
                            refine W.no 4 100000 (by kernel_rfl) ?_
                            refine W.yes 4 100000 (by kernel_rfl) ?_
                            refine W.no 4 100000 (by kernel_rfl) ?_
                            refine W.cond 4 100000 h721 (by kernel_rfl) (fun h721 => ?_) (fun h721 => ?_)
                            ·
                              cases h721; exact W.retK 4 100000 K721 (by kernel_rfl)
                            ·
                              cases h721; exact W.at 4 100000 [] [1, 4] (by kernel_rfl) K721
                          ·
                            refine W.no 4 100000 (by kernel_rfl) ?_
                            refine W.no 4 100000 (by kernel_rfl) ?_
                            refine W.no 4 100000 (by kernel_rfl) ?_
                            refine W.no 4 100000 (by kernel_rfl) ?_
                            refine W.no 4 100000 (by kernel_rfl) ?_
                            refine W.no 4 100000 (by kernel_rfl) ?_
                            refine W.no 4 100000 (by kernel_rfl) ?_
                            refine W.no 4 100000 (by kernel_rfl) ?_
                            refine W.no 4 100000 (by kernel_rfl) ?_
                            refine W.no 4 100000 (by kernel_rfl) ?_
                            cases h721; exact W.at 4 100000 [] [1, 4] (by kernel_rfl) K721
                    ·
                      cases h721; exact W.at 4 100000 [] [] (by kernel_rfl) K721
              · refine W.next 0 1 (by kernel_rfl) ?_
                refine W.bind h722 fun a_697 ha_697 h722 => ?_
                refine W.call 3 100000 (by kernel_rfl) (cellarerref19_Name_con ha_697) (by kernel_rfl) ?_
                refine W.cond 3 100000 h722 (by kernel_rfl) (fun h722 => ?_) (fun h722 => ?_)
                ·
                  refine W.yes 3 100000 (by kernel_rfl) ?_
                  refine W.yes 3 100000 (by kernel_rfl) ?_
                  refine W.yes 3 100000 (by kernel_rfl) ?_
                  refine W.yes 3 100000 (by kernel_rfl) ?_
                  refine W.yes 3 100000 (by kernel_rfl) ?_
                  refine W.yes 3 100000 (by kernel_rfl) ?_
                  refine W.yes 3 100000 (by kernel_rfl) ?_
                  refine W.yes 3 100000 (by kernel_rfl) ?_
                  refine W.yes 3 100000 (by kernel_rfl) ?_
                  refine W.yes 3 100000 (by kernel_rfl) ?_
                  refine W.yes 3 100000 (by kernel_rfl) ?_
                  refine W.yes 3 100000 (by kernel_rfl) ?_
                  refine W.yes 3 100000 (by kernel_rfl) ?_
                  refine W.yes 3 100000 (by kernel_rfl) ?_
                  refine W.yes 3 100000 (by kernel_rfl) ?_
                  refine W.yes 3 100000 (by kernel_rfl) ?_
                  refine W.yes 3 100000 (by kernel_rfl) ?_
                  refine W.yes 3 100000 (by kernel_rfl) ?_
                  refine W.yes 3 100000 (by kernel_rfl) ?_
                  refine W.yes 3 100000 (by kernel_rfl) ?_
                  refine W.yes 3 100000 (by kernel_rfl) ?_
                  refine W.yes 3 100000 (by kernel_rfl) ?_
                  refine W.yes 3 100000 (by kernel_rfl) ?_
                  refine W.yes 3 100000 (by kernel_rfl) ?_
                  refine W.yes 3 100000 (by kernel_rfl) ?_
                  refine W.yes 3 100000 (by kernel_rfl) ?_
                  refine W.yes 3 100000 (by kernel_rfl) ?_
                  refine W.yes 3 100000 (by kernel_rfl) ?_
                  refine W.yes 3 100000 (by kernel_rfl) ?_
                  refine W.yes 3 100000 (by kernel_rfl) ?_
                  refine W.yes 3 100000 (by kernel_rfl) ?_
                  cases h722; exact W.retK 3 100000 K722 (by kernel_rfl)
                ·
                  refine W.no 3 100000 (by kernel_rfl) ?_
                  refine W.no 3 100000 (by kernel_rfl) ?_
                  refine W.bind h722 fun a_698 ha_698 h722 => ?_
                  refine W.call 3 100000 (by kernel_rfl) (cellarerref19_Link_con ha_698) (by kernel_rfl) ?_
                  refine W.no 3 100000 (by kernel_rfl) ?_
                  refine W.no 3 100000 (by kernel_rfl) ?_
                  refine W.cond 3 100000 h722 (by kernel_rfl) (fun h722 => ?_) (fun h722 => ?_)
                  ·
                    refine W.yes 3 100000 (by kernel_rfl) ?_
                    refine W.yes 3 100000 (by kernel_rfl) ?_
                    refine W.yes 3 100000 (by kernel_rfl) ?_
                    refine W.yes 3 100000 (by kernel_rfl) ?_
                    refine W.yes 3 100000 (by kernel_rfl) ?_
                    refine W.yes 3 100000 (by kernel_rfl) ?_
                    refine W.yes 3 100000 (by kernel_rfl) ?_
                    refine W.yes 3 100000 (by kernel_rfl) ?_
                    refine W.yes 3 100000 (by kernel_rfl) ?_
                    refine W.yes 3 100000 (by kernel_rfl) ?_
                    refine W.yes 3 100000 (by kernel_rfl) ?_
                    refine W.yes 3 100000 (by kernel_rfl) ?_
                    refine W.yes 3 100000 (by kernel_rfl) ?_
                    refine W.yes 3 100000 (by kernel_rfl) ?_
                    refine W.yes 3 100000 (by kernel_rfl) ?_
                    refine W.yes 3 100000 (by kernel_rfl) ?_
                    refine W.yes 3 100000 (by kernel_rfl) ?_
                    refine W.yes 3 100000 (by kernel_rfl) ?_
                    refine W.yes 3 100000 (by kernel_rfl) ?_
                    refine W.yes 3 100000 (by kernel_rfl) ?_
                    refine W.yes 3 100000 (by kernel_rfl) ?_
                    refine W.yes 3 100000 (by kernel_rfl) ?_
                    refine W.yes 3 100000 (by kernel_rfl) ?_
                    refine W.yes 3 100000 (by kernel_rfl) ?_
                    refine W.yes 3 100000 (by kernel_rfl) ?_
                    refine W.yes 3 100000 (by kernel_rfl) ?_
                    cases h722; exact W.retK 3 100000 K722 (by kernel_rfl)
                  ·
                    refine W.no 3 100000 (by kernel_rfl) ?_
                    refine W.no 3 100000 (by kernel_rfl) ?_
                    refine W.bind h722 fun a_699 ha_699 h722 => ?_
                    refine W.call 3 100000 (by kernel_rfl) (cellarerref19_Place_con ha_699) (by kernel_rfl) ?_
                    refine W.no 3 100000 (by kernel_rfl) ?_
                    refine W.no 3 100000 (by kernel_rfl) ?_
                    refine W.cond 3 100000 h722 (by kernel_rfl) (fun h722 => ?_) (fun h722 => ?_)
                    ·
                      refine W.yes 3 100000 (by kernel_rfl) ?_
                      refine W.yes 3 100000 (by kernel_rfl) ?_
                      refine W.yes 3 100000 (by kernel_rfl) ?_
                      refine W.yes 3 100000 (by kernel_rfl) ?_
                      refine W.yes 3 100000 (by kernel_rfl) ?_
                      refine W.yes 3 100000 (by kernel_rfl) ?_
                      refine W.yes 3 100000 (by kernel_rfl) ?_
                      refine W.yes 3 100000 (by kernel_rfl) ?_
                      refine W.yes 3 100000 (by kernel_rfl) ?_
                      refine W.yes 3 100000 (by kernel_rfl) ?_
                      refine W.yes 3 100000 (by kernel_rfl) ?_
                      refine W.yes 3 100000 (by kernel_rfl) ?_
                      refine W.yes 3 100000 (by kernel_rfl) ?_
                      refine W.yes 3 100000 (by kernel_rfl) ?_
                      refine W.yes 3 100000 (by kernel_rfl) ?_
                      refine W.yes 3 100000 (by kernel_rfl) ?_
                      refine W.yes 3 100000 (by kernel_rfl) ?_
                      refine W.yes 3 100000 (by kernel_rfl) ?_
                      refine W.yes 3 100000 (by kernel_rfl) ?_
                      refine W.yes 3 100000 (by kernel_rfl) ?_
                      refine W.yes 3 100000 (by kernel_rfl) ?_
                      cases h722; exact W.retK 3 100000 K722 (by kernel_rfl)
                    ·
                      refine W.no 3 100000 (by kernel_rfl) ?_
                      refine W.no 3 100000 (by kernel_rfl) ?_
                      refine W.no 3 100000 (by kernel_rfl) ?_
                      refine W.cond 3 100000 h722 (by kernel_rfl) (fun h722 => ?_) (fun h722 => ?_)
                      ·
                        refine W.yes 3 100000 (by kernel_rfl) ?_
                        refine W.yes 3 100000 (by kernel_rfl) ?_
                        refine W.yes 3 100000 (by kernel_rfl) ?_
                        refine W.yes 3 100000 (by kernel_rfl) ?_
                        refine W.yes 3 100000 (by kernel_rfl) ?_
                        refine W.yes 3 100000 (by kernel_rfl) ?_
                        refine W.yes 3 100000 (by kernel_rfl) ?_
                        refine W.yes 3 100000 (by kernel_rfl) ?_
                        refine W.yes 3 100000 (by kernel_rfl) ?_
                        refine W.yes 3 100000 (by kernel_rfl) ?_
                        refine W.yes 3 100000 (by kernel_rfl) ?_
                        refine W.yes 3 100000 (by kernel_rfl) ?_
                        refine W.yes 3 100000 (by kernel_rfl) ?_
                        refine W.yes 3 100000 (by kernel_rfl) ?_
                        refine W.yes 3 100000 (by kernel_rfl) ?_
                        refine W.yes 3 100000 (by kernel_rfl) ?_
                        refine W.yes 3 100000 (by kernel_rfl) ?_
                        cases h722; exact W.retK 3 100000 K722 (by kernel_rfl)
                      ·
                        refine W.no 3 100000 (by kernel_rfl) ?_
                        refine W.no 3 100000 (by kernel_rfl) ?_
                        refine W.no 3 100000 (by kernel_rfl) ?_
                        refine W.cond 3 100000 h722 (by kernel_rfl) (fun h722 => ?_) (fun h722 => ?_)
                        ·
                          refine W.yes 3 100000 (by kernel_rfl) ?_
                          refine W.yes 3 100000 (by kernel_rfl) ?_
                          refine W.yes 3 100000 (by kernel_rfl) ?_
                          refine W.yes 3 100000 (by kernel_rfl) ?_
                          refine W.yes 3 100000 (by kernel_rfl) ?_
                          refine W.yes 3 100000 (by kernel_rfl) ?_
                          refine W.yes 3 100000 (by kernel_rfl) ?_
                          refine W.yes 3 100000 (by kernel_rfl) ?_
                          refine W.yes 3 100000 (by kernel_rfl) ?_
                          refine W.yes 3 100000 (by kernel_rfl) ?_
                          refine W.yes 3 100000 (by kernel_rfl) ?_
                          refine W.yes 3 100000 (by kernel_rfl) ?_
                          refine W.yes 3 100000 (by kernel_rfl) ?_
                          cases h722; exact W.retK 3 100000 K722 (by kernel_rfl)
                        ·
                          refine W.no 3 100000 (by kernel_rfl) ?_
                          refine W.no 3 100000 (by kernel_rfl) ?_
                          refine W.no 3 100000 (by kernel_rfl) ?_
                          refine W.no 3 100000 (by kernel_rfl) ?_
                          refine W.no 3 100000 (by kernel_rfl) ?_
                          refine W.no 3 100000 (by kernel_rfl) ?_
                          refine W.no 3 100000 (by kernel_rfl) ?_
                          refine W.cond 3 100000 h722 (by kernel_rfl) (fun h722 => ?_) (fun h722 => ?_)
                          ·
                            refine W.yes 3 100000 (by kernel_rfl) ?_
                            refine W.yes 3 100000 (by kernel_rfl) ?_
                            refine W.yes 3 100000 (by kernel_rfl) ?_
                            refine W.yes 3 100000 (by kernel_rfl) ?_
                            refine W.yes 3 100000 (by kernel_rfl) ?_
                            cases h722; exact W.retK 3 100000 K722 (by kernel_rfl)
                          ·
                            refine W.no 3 100000 (by kernel_rfl) ?_
                            refine W.no 3 100000 (by kernel_rfl) ?_
                            refine W.no 3 100000 (by kernel_rfl) ?_
                            refine W.no 3 100000 (by kernel_rfl) ?_
                            refine W.cond 3 100000 h722 (by kernel_rfl) (fun h722 => ?_) (fun h722 => ?_)
                            ·
                              cases h722; exact W.retK 3 100000 K722 (by kernel_rfl)
                            ·
                              cases h722; exact W.at 3 100000 [] [1] (by kernel_rfl) K722
            ·
              refine W.join (fun t_723 => Walk Go.Proofs.Tryd.prog 10 (Cfg.mk Mode.run (seqTodo Go.Proofs.Tryd.prog 10 24) (St.mk [jj, AV.ptr (0 : Nat) (0 : Nat), jj, jj, jj, jj, jj, jj, jj, jj, jj, jj, jj, jj, AV.int IntKind.i64 a_676, jj, jj, jj, jj, jj, jj, jj, jj, jj, jj, jj, jj, jj, jj, jj, jj, jj, jj, jj, jj, jj, jj, jj, jj, jj, jj, jj, jj, jj, jj, jj, jj, jj, jj, jj, jj, jj, jj, jj, jj, jj, jj, jj, jj, jj, jj, jj, jj, jj, jj, jj, jj, jj, jj, jj, jj, jj, jj, jj, jj, jj, jj, jj, jj, jj, jj, jj, jj, jj, jj, jj, jj, jj, jj, jj, jj, jj, jj, jj, jj, jj, jj, jj, jj, jj, jj, jj, jj, jj, jj, jj, jj, jj, jj, jj, jj, jj, jj, jj, jj, jj, jj, jj, jj, jj, jj, jj, jj, jj, jj, jj, jj, jj, jj, jj, jj, jj, jj, jj, jj, jj, jj, jj, jj, jj, jj, AV.bool t_723, jj, jj, jj, jj, jj, jj, jj, jj, jj, jj, jj, jj, jj, jj, jj, jj, jj, jj, jj, jj, jj] [AO.box [AV.int IntKind.i64 a_676, AV.str a_677, AV.str a_678, AV.str a_679, AV.int IntKind.i64 a_680, AV.int IntKind.i64 a_681, AV.int IntKind.i64 a_682, AV.int IntKind.i64 a_683, AV.bool a_684, AV.bool a_685, AV.list (Ty.prod Ty.str Ty.str) a_686 Bool.false, AV.list Ty.str a_687 Bool.false]] (0 : Nat))) (cellarerref19_Act_res r) (cellarerref19_Act_out r)) h (fun t_723 h => ?_) (fun t732 h732 K732 => ?_)
              ·
                refine W.cond 0 100000 h (by kernel_rfl) (fun h => ?_) (fun h => ?_)
                ·
                  refine W.bind h fun a_724 ha_724 h => ?_
                  refine W.call 0 100000 (by kernel_rfl) (cellarerref19_Name_con ha_724) (by kernel_rfl) ?_
                  refine W.cond 0 100000 h (by kernel_rfl) (fun h => ?_) (fun h => ?_)
                  ·
                    refine W.yes 0 100000 (by kernel_rfl) ?_
                    refine W.yes 0 100000 (by kernel_rfl) ?_
                    refine W.bind h fun a_725 ha_725 h => ?_
                    refine W.call 0 100000 (by kernel_rfl) (cellarerref19_Place_con ha_725) (by kernel_rfl) ?_
                    refine W.yes 0 100000 (by kernel_rfl) ?_
                    exact W.retT 0 100000 h (by kernel_rfl)
                  ·
                    refine W.no 0 100000 (by kernel_rfl) ?_
                    refine W.no 0 100000 (by kernel_rfl) ?_
                    refine W.no 0 100000 (by kernel_rfl) ?_
                    exact W.retT 0 100000 h (by kernel_rfl)
                ·
                  refine W.join (fun t_727 => Walk Go.Proofs.Tryd.prog 10 (Cfg.mk Mode.run (seqTodo Go.Proofs.Tryd.prog 10 27) (St.mk [jj, AV.ptr (0 : Nat) (0 : Nat), jj, jj, jj, jj, jj, jj, jj, jj, jj, jj, jj, jj, AV.int IntKind.i64 a_676, jj, jj, jj, jj, jj, jj, jj, jj, jj, jj, jj, jj, jj, jj, jj, jj, jj, jj, jj, jj, jj, jj, jj, jj, jj, jj, jj, jj, jj, jj, jj, jj, jj, jj, jj, jj, jj, jj, jj, jj, jj, jj, jj, jj, jj, jj, jj, jj, jj, jj, jj, jj, jj, jj, jj, jj, jj, jj, jj, jj, jj, jj, jj, jj, jj, jj, jj, jj, jj, jj, jj, jj, jj, jj, jj, jj, jj, jj, jj, jj, jj, jj, jj, jj, jj, jj, jj, jj, jj, jj, jj, jj, jj, jj, jj, jj, jj, jj, jj, jj, jj, jj, jj, jj, jj, jj, jj, jj, jj, jj, jj, jj, jj, jj, jj, jj, jj, jj, jj, jj, jj, jj, jj, jj, jj, jj, jj, jj, jj, jj, jj, jj, jj, jj, jj, jj, jj, AV.bool t_727, jj, jj, jj, jj, jj, jj, jj, jj, jj, jj] [AO.box [AV.int IntKind.i64 a_676, AV.str a_677, AV.str a_678, AV.str a_679, AV.int IntKind.i64 a_680, AV.int IntKind.i64 a_681, AV.int IntKind.i64 a_682, AV.int IntKind.i64 a_683, AV.bool a_684, AV.bool a_685, AV.list (Ty.prod Ty.str Ty.str) a_686 Bool.false, AV.list Ty.str a_687 Bool.false]] (0 : Nat))) (cellarerref19_Act_res r) (cellarerref19_Act_out r)) h (fun t_727 h => ?_) (fun t731 h731 K731 => ?_)
                  ·
                    refine W.cond 0 100000 h (by kernel_rfl) (fun h => ?_) (fun h => ?_)
                    ·
                      refine W.bind h fun a_728 ha_728 h => ?_
                      refine W.call 0 100000 (by kernel_rfl) (cellarerref19_Name_con ha_728) (by kernel_rfl) ?_
                      exact W.retT 0 100000 h (by kernel_rfl)
                    ·
                      refine W.cond 0 100000 h (by kernel_rfl) (fun h => ?_) (fun h => ?_)
                      ·
                        refine W.bind h fun a_729 ha_729 h => ?_
                        refine W.call 0 100000 (by kernel_rfl) (cellarerref08_Trigger_con ha_729) (by kernel_rfl) ?_
                        exact W.retT 0 100000 h (by kernel_rfl)
                      ·
                        exact W.retT 0 100000 h (by kernel_rfl)
                  · refine W.next 0 1 (by kernel_rfl) ?_
                    refine W.cond 3 100000 h731 (by kernel_rfl) (fun h731 => ?_) (fun h731 => ?_)
                    ·
                      cases h731; exact W.at 3 100000 [] [1, 14, 152] (by kernel_rfl) K731
                    ·
                      cases h731; exact W.at 3 100000 [] [1, 14, 152] (by kernel_rfl) K731
              · refine W.next 0 1 (by kernel_rfl) ?_
                refine W.cond 3 100000 h732 (by kernel_rfl) (fun h732 => ?_) (fun h732 => ?_)
                ·
                  cases h732; exact W.at 3 100000 [] [1, 14, 141] (by kernel_rfl) K732
                ·
                  cases h732; exact W.at 3 100000 [] [1, 14, 141] (by kernel_rfl) K732
  · refine W.next 0 6 (by kernel_rfl) ?_
    refine W.cond 1 100000 h733 (by kernel_rfl) (fun h733 => ?_) (fun h733 => ?_)
    ·
      refine W.yes 1 100000 (by kernel_rfl) ?_
      refine W.yes 1 100000 (by kernel_rfl) ?_
      refine W.yes 1 100000 (by kernel_rfl) ?_
      cases h733; exact W.at 1 100000 [] [1, 3] (by kernel_rfl) K733
    ·
      refine W.no 1 100000 (by kernel_rfl) ?_
      refine W.no 1 100000 (by kernel_rfl) ?_
      refine W.bind h733 fun a_688 ha_688 h733 => ?_
      refine W.call 1 100000 (by kernel_rfl) (cellarerref02_Name_con ha_688) (by kernel_rfl) ?_
      refine W.no 1 100000 (by kernel_rfl) ?_
      cases h733; exact W.at 1 100000 [] [1, 3] (by kernel_rfl) K733

theorem relation_Right_con {x_738 : List UInt8} {x_739 : List UInt8} {x_740 : List UInt8} {r : Bool} (h : relation_Right x_738 x_739 x_740 = some r) : Con Go.Proofs.Tryd.prog 66 [AV.agg [AV.str x_738, AV.str x_739, AV.str x_740]] [] (relation_Right_res r) (relation_Right_out r) := by
  refine W.con (by kernel_rfl) ?_
  unfold relation_Right at h
  refine W.bind h fun a_741 ha_741 h => ?_
  refine W.call 0 100000 (by kernel_rfl) (path_Name_con ha_741) (by kernel_rfl) ?_
  refine W.cond 0 100000 h (by kernel_rfl) (fun h => ?_) (fun h => ?_)
  ·
    exact W.retT 0 100000 h (by kernel_rfl)
  ·
    refine W.cond 0 100000 h (by kernel_rfl) (fun h => ?_) (fun h => ?_)
    ·
      exact W.retT 0 100000 h (by kernel_rfl)
    ·
      refine W.join (fun t_743 => Walk Go.Proofs.Tryd.prog 66 (Cfg.mk Mode.run (seqTodo Go.Proofs.Tryd.prog 66 8) (St.mk [jj, AV.ptr (0 : Nat) (0 : Nat), jj, jj, jj, jj, jj, jj, jj, jj, jj, jj, jj, jj, jj, jj, AV.bool t_743, jj, jj, jj, jj, jj, jj, jj, jj, jj, jj, jj, jj, jj] [AO.box [AV.str x_738, AV.str x_739, AV.str x_740]] (0 : Nat))) (relation_Right_res r) (relation_Right_out r)) h (fun t_743 h => ?_) (fun t746 h746 K746 => ?_)
      ·
        refine W.cond 0 100000 h (by kernel_rfl) (fun h => ?_) (fun h => ?_)
        ·
          refine W.bind h fun a_744 ha_744 h => ?_
          refine W.call 0 100000 (by kernel_rfl) (version_Parse_con ha_744) (by kernel_rfl) ?_
          exact W.retT 0 100000 h (by kernel_rfl)
        ·
          exact W.retT 0 100000 h (by kernel_rfl)
      · refine W.next 0 1 (by kernel_rfl) ?_
        refine W.cond 3 100000 h746 (by kernel_rfl) (fun h746 => ?_) (fun h746 => ?_)
        ·
          cases h746; exact W.at 3 100000 [] [1, 16] (by kernel_rfl) K746
        ·
          refine W.cond 3 100000 h746 (by kernel_rfl) (fun h746 => ?_) (fun h746 => ?_)
          ·
            cases h746; exact W.at 3 100000 [] [1, 16] (by kernel_rfl) K746
          ·
            refine W.cond 3 100000 h746 (by kernel_rfl) (fun h746 => ?_) (fun h746 => ?_)
            ·
              cases h746; exact W.at 3 100000 [] [1, 16] (by kernel_rfl) K746
            ·
              refine W.cond 3 100000 h746 (by kernel_rfl) (fun h746 => ?_) (fun h746 => ?_)
              ·
                cases h746; exact W.at 3 100000 [] [1, 16] (by kernel_rfl) K746
              ·
                cases h746; exact W.at 3 100000 [] [1, 16] (by kernel_rfl) K746

theorem relation_Text_con {x_749 : List UInt8} {x_750 : List UInt8} {x_751 : List UInt8} {r : List UInt8} (h : relation_Text x_749 x_750 x_751 = some r) : Con Go.Proofs.Tryd.prog 67 [AV.agg [AV.str x_749, AV.str x_750, AV.str x_751]] [] (relation_Text_res r) (relation_Text_out r) := by
  refine W.con (by kernel_rfl) ?_
  unfold relation_Text at h
  refine W.cond 0 100000 h (by kernel_rfl) (fun h => ?_) (fun h => ?_)
  ·
    exact W.retT 0 100000 h (by kernel_rfl)
  ·
    refine W.needT 0 100000 h (by kernel_rfl) (fun h => ?_)
    refine W.needT 0 100000 h (by kernel_rfl) (fun h => ?_)
    refine W.needT 0 100000 h (by kernel_rfl) (fun h => ?_)
    refine W.needT 0 100000 h (by kernel_rfl) (fun h => ?_)
    refine W.needT 0 100000 h (by kernel_rfl) (fun h => ?_)
    exact W.retT 0 100000 h (by kernel_rfl)

theorem relation_right_con {x_755 : List UInt8} {x_756 : List UInt8} {x_757 : List UInt8} {r : List UInt8 × Int} (h : relation_right x_755 x_756 x_757 = some r) : Con Go.Proofs.Tryd.prog 53 [AV.agg [AV.str x_755, AV.str x_756, AV.str x_757]] [] (relation_right_res r) (relation_right_out r) := by
  refine W.con (by kernel_rfl) ?_
  unfold relation_right at h
  refine W.bind h fun a_758 ha_758 h => ?_
  refine W.call 0 100000 (by kernel_rfl) (relation_Right_con ha_758) (by kernel_rfl) ?_
  refine W.cond 0 100000 h (by kernel_rfl) (fun h => ?_) (fun h => ?_)
  ·
    exact W.retT 0 100000 h (by kernel_rfl)
  ·
    refine W.bind h fun a_759 ha_759 h => ?_
    refine W.call 0 100000 (by kernel_rfl) (relation_Text_con ha_759) (by kernel_rfl) ?_
    exact W.retT 0 100000 h (by kernel_rfl)

theorem api_Rel__con {l_765 : List (List UInt8 × List UInt8 × List UInt8)} {between_766 : List UInt8} {r : List UInt8 × Int} (h : api_Rel_ l_765 between_766 = some r) : Con Go.Proofs.Tryd.prog 52 [AV.list (Ty.prod Ty.str (Ty.prod Ty.str Ty.str)) l_765 Bool.false, AV.func (Go.Fn.func (53 : Nat)) [] [], AV.str between_766] [] (api_Rel__res r) (api_Rel__out r) := by
  refine W.con (by kernel_rfl) ?_
  unfold api_Rel_ at h
  refine W.cond 0 100000 h (by kernel_rfl) (fun h => ?_) (fun h => ?_)
  ·
    exact W.retT 0 100000 h (by kernel_rfl)
  ·
    refine W.at 0 100000 [Co.own 8 (Ty.str)] [1, 2, 8, 16, 17, 18] (c' := (fun (s_788 : Int × List (List UInt8)) => (Cfg.mk Mode.run (headTodo Go.Proofs.Tryd.prog 52 0) (St.mk [jj, AV.func (Go.Fn.func (53 : Nat)) [] [], AV.str between_766, jj, jj, jj, jj, jj, AV.view (0 : Nat) (0 : Nat) Option.none, jj, jj, jj, jj, jj, jj, jj, AV.list (Ty.prod Ty.str (Ty.prod Ty.str Ty.str)) l_765 Bool.false, AV.int IntKind.i64 (↑(List.length l_765) : Int), AV.int IntKind.i64 (Prod.fst s_788), jj, jj, jj, jj, jj, jj, jj, jj, jj, jj, jj, jj, jj, jj, jj, jj, jj, jj, jj, jj] [AO.row Ty.str (Prod.snd s_788)] (0 : Nat)))) ((0 : Int), [])) (by kernel_rfl) ?_
    refine W.loop (fun (s_788 : Int × List (List UInt8)) => (Cfg.mk Mode.run (headTodo Go.Proofs.Tryd.prog 52 0) (St.mk [jj, AV.func (Go.Fn.func (53 : Nat)) [] [], AV.str between_766, jj, jj, jj, jj, jj, AV.view (0 : Nat) (0 : Nat) Option.none, jj, jj, jj, jj, jj, jj, jj, AV.list (Ty.prod Ty.str (Ty.prod Ty.str Ty.str)) l_765 Bool.false, AV.int IntKind.i64 (↑(List.length l_765) : Int), AV.int IntKind.i64 (Prod.fst s_788), jj, jj, jj, jj, jj, jj, jj, jj, jj, jj, jj, jj, jj, jj, jj, jj, jj, jj, jj, jj] [AO.row Ty.str (Prod.snd s_788)] (0 : Nat)))) (fun t => (Sum.elim (fun t_779 => r = ([], t_779)) (fun t_781 => Walk Go.Proofs.Tryd.prog 52 (Cfg.mk Mode.run ((headTodo Go.Proofs.Tryd.prog 52 0).drop 3) (St.mk [jj, jj, AV.str between_766, jj, jj, jj, jj, jj, AV.view (0 : Nat) (0 : Nat) Option.none, jj, jj, jj, jj, jj, jj, jj, jj, jj, jj, jj, jj, jj, jj, jj, jj, jj, jj, jj, jj, jj, jj, jj, jj, jj, jj, jj, jj, jj, jj] [AO.row Ty.str t_781] (0 : Nat))) (api_Rel__res r) (api_Rel__out r))) t) h (fun t h => ?_) (fun s_788 x784 h784 K784 => ?_)
    ·
      rcases t with t_779 | t_781
      · replace h := W.inl (h)
        refine W.elimL (?_)
        exact (Option.some.inj h).symm
      · replace h := W.inr (h)
        refine W.elimR (?_)
        refine W.bind h fun a_782 ha_782 h => ?_
        refine W.call 0 100000 (by kernel_rfl) (strings_Join_con ha_782) (by kernel_rfl) ?_
        exact W.retT 0 100000 h (by kernel_rfl)
    · unfold api_Rel__b0 at h784
      refine W.cond 2 100000 h784 (by kernel_rfl) (fun h784 => ?_) (fun h784 => ?_)
      ·
        refine W.needT 2 100000 h784 (by kernel_rfl) (fun h784 => ?_)
        refine W.bind h784 fun a_777 ha_777 h784 => ?_
        refine W.call 2 100000 (by kernel_rfl) (relation_right_con ha_777) (by kernel_rfl) ?_
        refine W.cond 2 100000 h784 (by kernel_rfl) (fun h784 => ?_) (fun h784 => ?_)
        ·
          cases h784; exact W.retK 2 100000 K784 (by kernel_rfl)
        ·
          refine W.needT 2 100000 h784 (by kernel_rfl) (fun h784 => ?_)
          cases h784; exact W.at 2 100000 [Co.own 8 (Ty.str)] [1, 2, 8, 16, 17, 18] (by kernel_rfl) K784
      ·
        cases h784; exact W.at 2 100000 [] [2, 8] (by kernel_rfl) K784

theorem relation_group_con {l_764 : List (List UInt8 × List UInt8 × List UInt8)} {r : List UInt8 × Int} (h : relation_group l_764 = some r) : Con Go.Proofs.Tryd.prog 51 [AV.list (Ty.prod Ty.str (Ty.prod Ty.str Ty.str)) l_764 Bool.false] [] (relation_group_res r) (relation_group_out r) := by
  refine W.con (by kernel_rfl) ?_
  unfold relation_group at h
  refine W.cond 0 100000 h (by kernel_rfl) (fun h => ?_) (fun h => ?_)
  ·
    exact W.retT 0 100000 h (by kernel_rfl)
  ·
    refine W.bind h fun a_789 ha_789 h => ?_
    refine W.call 0 100000 (by kernel_rfl) (api_Rel__con ha_789) (by kernel_rfl) ?_
    exact W.retT 0 100000 h (by kernel_rfl)

theorem api_Rel__50_con {l_801 : List (List (List UInt8 × List UInt8 × List UInt8))} {between_802 : List UInt8} {r : List UInt8 × Int} (h : api_Rel__50 l_801 between_802 = some r) : Con Go.Proofs.Tryd.prog 50 [AV.list (Ty.list (Ty.prod Ty.str (Ty.prod Ty.str Ty.str))) l_801 Bool.false, AV.func (Go.Fn.func (51 : Nat)) [] [], AV.str between_802] [] (api_Rel__50_res r) (api_Rel__50_out r) := by
  refine W.con (by kernel_rfl) ?_
  unfold api_Rel__50 at h
  refine W.cond 0 100000 h (by kernel_rfl) (fun h => ?_) (fun h => ?_)
  ·
    exact W.retT 0 100000 h (by kernel_rfl)
  ·
    refine W.at 0 100000 [Co.own 8 (Ty.str)] [1, 2, 8, 16, 17, 18] (c' := (fun (s_824 : Int × List (List UInt8)) => (Cfg.mk Mode.run (headTodo Go.Proofs.Tryd.prog 50 0) (St.mk [jj, AV.func (Go.Fn.func (51 : Nat)) [] [], AV.str between_802, jj, jj, jj, jj, jj, AV.view (0 : Nat) (0 : Nat) Option.none, jj, jj, jj, jj, jj, jj, jj, AV.list (Ty.list (Ty.prod Ty.str (Ty.prod Ty.str Ty.str))) l_801 Bool.false, AV.int IntKind.i64 (↑(List.length l_801) : Int), AV.int IntKind.i64 (Prod.fst s_824), jj, jj, jj, jj, jj, jj, jj, jj, jj, jj, jj, jj, jj, jj, jj, jj, jj, jj, jj, jj] [AO.row Ty.str (Prod.snd s_824)] (0 : Nat)))) ((0 : Int), [])) (by kernel_rfl) ?_
    refine W.loop (fun (s_824 : Int × List (List UInt8)) => (Cfg.mk Mode.run (headTodo Go.Proofs.Tryd.prog 50 0) (St.mk [jj, AV.func (Go.Fn.func (51 : Nat)) [] [], AV.str between_802, jj, jj, jj, jj, jj, AV.view (0 : Nat) (0 : Nat) Option.none, jj, jj, jj, jj, jj, jj, jj, AV.list (Ty.list (Ty.prod Ty.str (Ty.prod Ty.str Ty.str))) l_801 Bool.false, AV.int IntKind.i64 (↑(List.length l_801) : Int), AV.int IntKind.i64 (Prod.fst s_824), jj, jj, jj, jj, jj, jj, jj, jj, jj, jj, jj, jj, jj, jj, jj, jj, jj, jj, jj, jj] [AO.row Ty.str (Prod.snd s_824)] (0 : Nat)))) (fun t => (Sum.elim (fun t_815 => r = ([], t_815)) (fun t_817 => Walk Go.Proofs.Tryd.prog 50 (Cfg.mk Mode.run ((headTodo Go.Proofs.Tryd.prog 50 0).drop 3) (St.mk [jj, jj, AV.str between_802, jj, jj, jj, jj, jj, AV.view (0 : Nat) (0 : Nat) Option.none, jj, jj, jj, jj, jj, jj, jj, jj, jj, jj, jj, jj, jj, jj, jj, jj, jj, jj, jj, jj, jj, jj, jj, jj, jj, jj, jj, jj, jj, jj] [AO.row Ty.str t_817] (0 : Nat))) (api_Rel__50_res r) (api_Rel__50_out r))) t) h (fun t h => ?_) (fun s_824 x820 h820 K820 => ?_)
    ·
      rcases t with t_815 | t_817
      · replace h := W.inl (h)
        refine W.elimL (?_)
        exact (Option.some.inj h).symm
      · replace h := W.inr (h)
        refine W.elimR (?_)
        refine W.bind h fun a_818 ha_818 h => ?_
        refine W.call 0 100000 (by kernel_rfl) (strings_Join_con ha_818) (by kernel_rfl) ?_
        exact W.retT 0 100000 h (by kernel_rfl)
    · unfold api_Rel__50_b0 at h820
      refine W.cond 2 100000 h820 (by kernel_rfl) (fun h820 => ?_) (fun h820 => ?_)
      ·
        refine W.needT 2 100000 h820 (by kernel_rfl) (fun h820 => ?_)
        refine W.bind h820 fun a_813 ha_813 h820 => ?_
        refine W.call 2 100000 (by kernel_rfl) (relation_group_con ha_813) (by kernel_rfl) ?_
        refine W.cond 2 100000 h820 (by kernel_rfl) (fun h820 => ?_) (fun h820 => ?_)
        ·
          cases h820; exact W.retK 2 100000 K820 (by kernel_rfl)
        ·
          refine W.needT 2 100000 h820 (by kernel_rfl) (fun h820 => ?_)
          cases h820; exact W.at 2 100000 [Co.own 8 (Ty.str)] [1, 2, 8, 16, 17, 18] (by kernel_rfl) K820
      ·
        cases h820; exact W.at 2 100000 [] [2, 8] (by kernel_rfl) K820

theorem relation_All_con {l_794 : List (List (List UInt8 × List UInt8 × List UInt8))} {r : List UInt8 × Int} (h : relation_All l_794 = some r) : Con Go.Proofs.Tryd.prog 31 [AV.list (Ty.list (Ty.prod Ty.str (Ty.prod Ty.str Ty.str))) l_794 Bool.false] [] (relation_All_res r) (relation_All_out r) := by
  refine W.con (by kernel_rfl) ?_
  unfold relation_All at h
  refine W.at 0 100000 [] [0, 6, 7, 8] (c' := (fun (s_831 : Int) => (Cfg.mk Mode.run (headTodo Go.Proofs.Tryd.prog 31 0) (St.mk [AV.list (Ty.list (Ty.prod Ty.str (Ty.prod Ty.str Ty.str))) l_794 Bool.false, jj, jj, jj, jj, jj, AV.list (Ty.list (Ty.prod Ty.str (Ty.prod Ty.str Ty.str))) l_794 Bool.false, AV.int IntKind.i64 (↑(List.length l_794) : Int), AV.int IntKind.i64 s_831, jj, jj, jj, jj, jj, jj, jj, jj, jj, jj, jj] [] (0 : Nat)))) ((0 : Int))) (by kernel_rfl) ?_
  refine W.loop (fun (s_831 : Int) => (Cfg.mk Mode.run (headTodo Go.Proofs.Tryd.prog 31 0) (St.mk [AV.list (Ty.list (Ty.prod Ty.str (Ty.prod Ty.str Ty.str))) l_794 Bool.false, jj, jj, jj, jj, jj, AV.list (Ty.list (Ty.prod Ty.str (Ty.prod Ty.str Ty.str))) l_794 Bool.false, AV.int IntKind.i64 (↑(List.length l_794) : Int), AV.int IntKind.i64 s_831, jj, jj, jj, jj, jj, jj, jj, jj, jj, jj, jj] [] (0 : Nat)))) (fun t => (Sum.elim (fun t_799 => r = ([], (22 : Int))) (fun t_800 => Walk Go.Proofs.Tryd.prog 31 (Cfg.mk Mode.run ((headTodo Go.Proofs.Tryd.prog 31 0).drop 3) (St.mk [AV.list (Ty.list (Ty.prod Ty.str (Ty.prod Ty.str Ty.str))) l_794 Bool.false, jj, jj, jj, jj, jj, jj, jj, jj, jj, jj, jj, jj, jj, jj, jj, jj, jj, jj, jj] [] (0 : Nat))) (relation_All_res r) (relation_All_out r))) t) h (fun t h => ?_) (fun s_831 x827 h827 K827 => ?_)
  ·
    rcases t with t_799 | t_800
    · replace h := W.inl (h)
      refine W.elimL (?_)
      exact (Option.some.inj h).symm
    · replace h := W.inr (h)
      refine W.elimR (?_)
      refine W.bind h fun a_825 ha_825 h => ?_
      refine W.call 0 100000 (by kernel_rfl) (api_Rel__50_con ha_825) (by kernel_rfl) ?_
      exact W.retT 0 100000 h (by kernel_rfl)
  · unfold relation_All_b0 at h827
    refine W.cond 2 100000 h827 (by kernel_rfl) (fun h827 => ?_) (fun h827 => ?_)
    ·
      refine W.needT 2 100000 h827 (by kernel_rfl) (fun h827 => ?_)
      refine W.cond 2 100000 h827 (by kernel_rfl) (fun h827 => ?_) (fun h827 => ?_)
      ·
        cases h827; exact W.retK 2 100000 K827 (by kernel_rfl)
      ·
        cases h827; exact W.at 2 100000 [] [0, 6, 7, 8] (by kernel_rfl) K827
    ·
      cases h827; exact W.at 2 100000 [] [0] (by kernel_rfl) K827

theorem relation_List_con {l_833 : List (List UInt8 × List UInt8 × List UInt8)} {r : List UInt8 × Int} (h : relation_List l_833 = some r) : Con Go.Proofs.Tryd.prog 32 [AV.list (Ty.prod Ty.str (Ty.prod Ty.str Ty.str)) l_833 Bool.false] [] (relation_List_res r) (relation_List_out r) := by
  refine W.con (by kernel_rfl) ?_
  unfold relation_List at h
  refine W.bind h fun a_834 ha_834 h => ?_
  refine W.call 0 100000 (by kernel_rfl) (api_Rel__con ha_834) (by kernel_rfl) ?_
  exact W.retT 0 100000 h (by kernel_rfl)

theorem pack_file_con {f_839 : List UInt8} {f_840 : Int} {f_841 : Int} {f_842 : Int} {f_843 : Int} {f_844 : List UInt8} {f_845 : Bool} {r : Bool} (h : pack_file f_839 f_840 f_841 f_842 f_843 f_844 f_845 = some r) : Con Go.Proofs.Tryd.prog 56 [AV.agg [AV.str f_839, AV.int IntKind.i64 f_840, AV.int IntKind.i64 f_841, AV.int IntKind.i64 f_842, AV.int IntKind.i64 f_843, AV.str f_844, AV.bool f_845]] [] (pack_file_res r) (pack_file_out r) := by
  refine W.con (by kernel_rfl) ?_
  unfold pack_file at h
  refine W.join (fun t => (Sum.elim (fun t_848 => r = (Bool.false)) (fun t_849 => Walk Go.Proofs.Tryd.prog 56 (Cfg.mk Mode.run (seqTodo Go.Proofs.Tryd.prog 56 1) (St.mk [jj, AV.ptr (0 : Nat) (0 : Nat), jj, jj, jj, jj, jj, jj, jj, jj, jj, jj, jj, jj, jj, jj, jj, jj, jj, jj, jj, jj, jj, jj, jj, jj, jj, jj, jj, jj, jj, jj, jj, jj, jj, jj, jj, jj, jj, jj, jj, jj, jj, jj, jj, jj, jj] [AO.box [AV.str f_839, AV.int IntKind.i64 f_840, AV.int IntKind.i64 f_841, AV.int IntKind.i64 f_842, AV.int IntKind.i64 f_843, AV.str f_844, AV.bool f_845]] (0 : Nat))) (pack_file_res r) (pack_file_out r))) t) h (fun t h => ?_) (fun t851 h851 K851 => ?_)
  ·
    rcases t with t_848 | t_849
    · replace h := W.inl (h)
      refine W.elimL (?_)
      exact (Option.some.inj h).symm
    · replace h := W.inr (h)
      refine W.elimR (?_)
      refine W.cond 0 100000 h (by kernel_rfl) (fun h => ?_) (fun h => ?_)
      ·
        exact W.retT 0 100000 h (by kernel_rfl)
      ·
        refine W.cond 0 100000 h (by kernel_rfl) (fun h => ?_) (fun h => ?_)
        ·
          exact W.retT 0 100000 h (by kernel_rfl)
        ·
          refine W.cond 0 100000 h (by kernel_rfl) (fun h => ?_) (fun h => ?_)
          ·
            refine W.cond 0 100000 h (by kernel_rfl) (fun h => ?_) (fun h => ?_)
            ·
              refine W.yes 0 100000 (by kernel_rfl) ?_
              refine W.yes 0 100000 (by kernel_rfl) ?_
              refine W.yes 0 100000 (by kernel_rfl) ?_
              refine W.yes 0 100000 (by kernel_rfl) ?_
              exact W.retT 0 100000 h (by kernel_rfl)
            ·
              refine W.no 0 100000 (by kernel_rfl) ?_
              refine W.no 0 100000 (by kernel_rfl) ?_
              refine W.no 0 100000 (by kernel_rfl) ?_
              refine W.no 0 100000 (by kernel_rfl) ?_
              exact W.retT 0 100000 h (by kernel_rfl)
          ·
            exact W.retT 0 100000 h (by kernel_rfl)
  · refine W.next 0 6 (by kernel_rfl) ?_
    refine W.bind h851 fun a_846 ha_846 h851 => ?_
    refine W.call 1 100000 (by kernel_rfl) (pack_place_con ha_846) (by kernel_rfl) ?_
    refine W.cond 1 100000 h851 (by kernel_rfl) (fun h851 => ?_) (fun h851 => ?_)
    ·
      refine W.yes 1 100000 (by kernel_rfl) ?_
      refine W.yes 1 100000 (by kernel_rfl) ?_
      refine W.yes 1 100000 (by kernel_rfl) ?_
      refine W.yes 1 100000 (by kernel_rfl) ?_
      refine W.yes 1 100000 (by kernel_rfl) ?_
      refine W.yes 1 100000 (by kernel_rfl) ?_
      refine W.yes 1 100000 (by kernel_rfl) ?_
      refine W.yes 1 100000 (by kernel_rfl) ?_
      refine W.yes 1 100000 (by kernel_rfl) ?_
      refine W.yes 1 100000 (by kernel_rfl) ?_
      cases h851; exact W.retK 1 100000 K851 (by kernel_rfl)
    ·
      refine W.no 1 100000 (by kernel_rfl) ?_
      refine W.no 1 100000 (by kernel_rfl) ?_
      refine W.bind h851 fun a_847 ha_847 h851 => ?_
      refine W.call 1 100000 (by kernel_rfl) (bits_Right_con ha_847) (by kernel_rfl) ?_
      refine W.no 1 100000 (by kernel_rfl) ?_
      refine W.no 1 100000 (by kernel_rfl) ?_
      refine W.cond 1 100000 h851 (by kernel_rfl) (fun h851 => ?_) (fun h851 => ?_)
      ·
        refine W.yes 1 100000 (by kernel_rfl) ?_
        refine W.yes 1 100000 (by kernel_rfl) ?_
        refine W.yes 1 100000 (by kernel_rfl) ?_
        refine W.yes 1 100000 (by kernel_rfl) ?_
        refine W.yes 1 100000 (by kernel_rfl) ?_
        cases h851; exact W.retK 1 100000 K851 (by kernel_rfl)
      ·
        refine W.no 1 100000 (by kernel_rfl) ?_
        refine W.no 1 100000 (by kernel_rfl) ?_
        refine W.cond 1 100000 h851 (by kernel_rfl) (fun h851 => ?_) (fun h851 => ?_)
        ·
          refine W.yes 1 100000 (by kernel_rfl) ?_
          refine W.yes 1 100000 (by kernel_rfl) ?_
          refine W.no 1 100000 (by kernel_rfl) ?_
          refine W.yes 1 100000 (by kernel_rfl) ?_
          refine W.no 1 100000 (by kernel_rfl) ?_
          refine W.cond 1 100000 h851 (by kernel_rfl) (fun h851 => ?_) (fun h851 => ?_)
          ·
            cases h851; exact W.retK 1 100000 K851 (by kernel_rfl)
          ·
            cases h851; exact W.at 1 100000 [] [1] (by kernel_rfl) K851
        ·
          refine W.no 1 100000 (by kernel_rfl) ?_
          refine W.no 1 100000 (by kernel_rfl) ?_
          refine W.no 1 100000 (by kernel_rfl) ?_
          refine W.no 1 100000 (by kernel_rfl) ?_
          refine W.no 1 100000 (by kernel_rfl) ?_
          refine W.no 1 100000 (by kernel_rfl) ?_
          cases h851; exact W.at 1 100000 [] [1] (by kernel_rfl) K851

theorem pack_files_con {l_854 : List (List UInt8 × Int × (Int × Int × Int) × List UInt8 × Bool)} {r : Bool} (h : pack_files l_854 = some r) : Con Go.Proofs.Tryd.prog 38 [AV.list (Ty.prod Ty.str (Ty.prod (Ty.int IntKind.i64) (Ty.prod (Ty.prod (Ty.int IntKind.i64) (Ty.prod (Ty.int IntKind.i64) (Ty.int IntKind.i64))) (Ty.prod Ty.str Ty.bool)))) l_854 Bool.false] [] (pack_files_res r) (pack_files_out r) := by
  refine W.con (by kernel_rfl) ?_
  unfold pack_files at h
  refine W.cond 0 100000 h (by kernel_rfl) (fun h => ?_) (fun h => ?_)
  ·
    exact W.retT 0 100000 h (by kernel_rfl)
  ·
    refine W.at 0 100000 [] [0, 10, 11, 12] (c' := (fun (s_888 : Int) => (Cfg.mk Mode.run (headTodo Go.Proofs.Tryd.prog 38 0) (St.mk [AV.list (Ty.prod Ty.str (Ty.prod (Ty.int IntKind.i64) (Ty.prod (Ty.prod (Ty.int IntKind.i64) (Ty.prod (Ty.int IntKind.i64) (Ty.int IntKind.i64))) (Ty.prod Ty.str Ty.bool)))) l_854 Bool.false, jj, jj, jj, jj, jj, jj, jj, jj, jj, AV.list (Ty.prod Ty.str (Ty.prod (Ty.int IntKind.i64) (Ty.prod (Ty.prod (Ty.int IntKind.i64) (Ty.prod (Ty.int IntKind.i64) (Ty.int IntKind.i64))) (Ty.prod Ty.str Ty.bool)))) l_854 Bool.false, AV.int IntKind.i64 (↑(List.length l_854) : Int), AV.int IntKind.i64 s_888, jj, jj, jj, jj, jj, jj, jj, jj, jj, jj, jj, jj, jj, jj, jj, jj, jj, jj, jj, jj, jj, jj, jj, jj, jj, jj, jj, jj, jj, jj, jj, jj, jj, jj, jj, jj, jj, jj, jj, jj, jj, jj] [] (0 : Nat)))) ((0 : Int))) (by kernel_rfl) ?_
    refine W.loop (fun (s_888 : Int) => (Cfg.mk Mode.run (headTodo Go.Proofs.Tryd.prog 38 0) (St.mk [AV.list (Ty.prod Ty.str (Ty.prod (Ty.int IntKind.i64) (Ty.prod (Ty.prod (Ty.int IntKind.i64) (Ty.prod (Ty.int IntKind.i64) (Ty.int IntKind.i64))) (Ty.prod Ty.str Ty.bool)))) l_854 Bool.false, jj, jj, jj, jj, jj, jj, jj, jj, jj, AV.list (Ty.prod Ty.str (Ty.prod (Ty.int IntKind.i64) (Ty.prod (Ty.prod (Ty.int IntKind.i64) (Ty.prod (Ty.int IntKind.i64) (Ty.int IntKind.i64))) (Ty.prod Ty.str Ty.bool)))) l_854 Bool.false, AV.int IntKind.i64 (↑(List.length l_854) : Int), AV.int IntKind.i64 s_888, jj, jj, jj, jj, jj, jj, jj, jj, jj, jj, jj, jj, jj, jj, jj, jj, jj, jj, jj, jj, jj, jj, jj, jj, jj, jj, jj, jj, jj, jj, jj, jj, jj, jj, jj, jj, jj, jj, jj, jj, jj, jj] [] (0 : Nat)))) (fun t => (Sum.elim (fun t_881 => r = (Bool.false)) (fun t_882 => Walk Go.Proofs.Tryd.prog 38 (Cfg.mk Mode.run ((headTodo Go.Proofs.Tryd.prog 38 0).drop 3) (St.mk [jj, jj, jj, jj, jj, jj, jj, jj, jj, jj, jj, jj, jj, jj, jj, jj, jj, jj, jj, jj, jj, jj, jj, jj, jj, jj, jj, jj, jj, jj, jj, jj, jj, jj, jj, jj, jj, jj, jj, jj, jj, jj, jj, jj, jj, jj, jj, jj, jj, jj, jj, jj, jj, jj, jj] [] (0 : Nat))) (pack_files_res r) (pack_files_out r))) t) h (fun t h => ?_) (fun s_888 x884 h884 K884 => ?_)
    ·
      rcases t with t_881 | t_882
      · replace h := W.inl (h)
        refine W.elimL (?_)
        exact (Option.some.inj h).symm
      · replace h := W.inr (h)
        refine W.elimR (?_)
        exact W.retT 0 100000 h (by kernel_rfl)
    · unfold pack_files_b1 at h884
      refine W.cond 2 100000 h884 (by kernel_rfl) (fun h884 => ?_) (fun h884 => ?_)
      ·
        refine W.needT 2 100000 h884 (by kernel_rfl) (fun h884 => ?_)
        refine W.join (fun t => (Sum.elim (fun t_860 => r = (Bool.false)) (fun t_861 => Walk Go.Proofs.Tryd.prog 38 (Cfg.mk Mode.run (seqTodo Go.Proofs.Tryd.prog 38 10) (St.mk [AV.list (Ty.prod Ty.str (Ty.prod (Ty.int IntKind.i64) (Ty.prod (Ty.prod (Ty.int IntKind.i64) (Ty.prod (Ty.int IntKind.i64) (Ty.int IntKind.i64))) (Ty.prod Ty.str Ty.bool)))) l_854 Bool.false, jj, jj, AV.int IntKind.i64 s_888, AV.ptr (0 : Nat) (0 : Nat), jj, jj, jj, jj, jj, AV.list (Ty.prod Ty.str (Ty.prod (Ty.int IntKind.i64) (Ty.prod (Ty.prod (Ty.int IntKind.i64) (Ty.prod (Ty.int IntKind.i64) (Ty.int IntKind.i64))) (Ty.prod Ty.str Ty.bool)))) l_854 Bool.false, AV.int IntKind.i64 (↑(List.length l_854) : Int), AV.int IntKind.i64 s_888, jj, jj, jj, jj, jj, jj, jj, jj, jj, jj, jj, jj, jj, jj, jj, jj, jj, jj, jj, jj, jj, jj, jj, jj, jj, jj, jj, jj, jj, jj, jj, jj, jj, jj, jj, jj, jj, jj, jj, jj, jj, jj] [AO.box [AV.str (Prod.fst (List.getD l_854 (Int.toNat s_888) ([], (0 : Int), ((0 : Int), (0 : Int), (0 : Int)), [], Bool.false))), AV.int IntKind.i64 (Prod.fst (Prod.snd (List.getD l_854 (Int.toNat s_888) ([], (0 : Int), ((0 : Int), (0 : Int), (0 : Int)), [], Bool.false)))), AV.int IntKind.i64 (Prod.fst (Prod.fst (Prod.snd (Prod.snd (List.getD l_854 (Int.toNat s_888) ([], (0 : Int), ((0 : Int), (0 : Int), (0 : Int)), [], Bool.false)))))), AV.int IntKind.i64 (Prod.fst (Prod.snd (Prod.fst (Prod.snd (Prod.snd (List.getD l_854 (Int.toNat s_888) ([], (0 : Int), ((0 : Int), (0 : Int), (0 : Int)), [], Bool.false))))))), AV.int IntKind.i64 (Prod.snd (Prod.snd (Prod.fst (Prod.snd (Prod.snd (List.getD l_854 (Int.toNat s_888) ([], (0 : Int), ((0 : Int), (0 : Int), (0 : Int)), [], Bool.false))))))), AV.str (Prod.fst (Prod.snd (Prod.snd (Prod.snd (List.getD l_854 (Int.toNat s_888) ([], (0 : Int), ((0 : Int), (0 : Int), (0 : Int)), [], Bool.false)))))), AV.bool (Prod.snd (Prod.snd (Prod.snd (Prod.snd (List.getD l_854 (Int.toNat s_888) ([], (0 : Int), ((0 : Int), (0 : Int), (0 : Int)), [], Bool.false))))))]] (0 : Nat))) (pack_files_res r) (pack_files_out r))) t) h884 (fun t h884 => ?_) (fun t881 h881 K881 => ?_)
        ·
          rcases t with t_860 | t_861
          · replace h884 := W.inl (h884)
            refine W.elimL (?_)
            cases h884; exact K884
          · replace h884 := W.inr (h884)
            refine W.elimR (?_)
            refine W.needT 2 100000 h884 (by kernel_rfl) (fun h884 => ?_)
            refine W.at 2 100000 [] [0, 4, 10, 11, 12, 37, 38, 39] (c' := (fun (s_889 : Int) => (Cfg.mk Mode.run (headTodo Go.Proofs.Tryd.prog 38 1) (St.mk [AV.list (Ty.prod Ty.str (Ty.prod (Ty.int IntKind.i64) (Ty.prod (Ty.prod (Ty.int IntKind.i64) (Ty.prod (Ty.int IntKind.i64) (Ty.int IntKind.i64))) (Ty.prod Ty.str Ty.bool)))) l_854 Bool.false, jj, jj, jj, AV.ptr (0 : Nat) (0 : Nat), jj, jj, jj, jj, jj, AV.list (Ty.prod Ty.str (Ty.prod (Ty.int IntKind.i64) (Ty.prod (Ty.prod (Ty.int IntKind.i64) (Ty.prod (Ty.int IntKind.i64) (Ty.int IntKind.i64))) (Ty.prod Ty.str Ty.bool)))) l_854 Bool.false, AV.int IntKind.i64 (↑(List.length l_854) : Int), AV.int IntKind.i64 s_888, jj, jj, jj, jj, jj, jj, jj, jj, jj, jj, jj, jj, jj, jj, jj, jj, jj, jj, jj, jj, jj, jj, jj, jj, AV.list (Ty.prod Ty.str (Ty.prod (Ty.int IntKind.i64) (Ty.prod (Ty.prod (Ty.int IntKind.i64) (Ty.prod (Ty.int IntKind.i64) (Ty.int IntKind.i64))) (Ty.prod Ty.str Ty.bool)))) (List.drop (Int.toNat (0 : Int)) (List.take (Int.toNat s_888) l_854)) Bool.false, AV.int IntKind.i64 (↑(List.length (List.drop (Int.toNat (0 : Int)) (List.take (Int.toNat s_888) l_854))) : Int), AV.int IntKind.i64 s_889, jj, jj, jj, jj, jj, jj, jj, jj, jj, jj, jj, jj, jj, jj, jj] [AO.box [AV.str (Prod.fst (List.getD l_854 (Int.toNat s_888) ([], (0 : Int), ((0 : Int), (0 : Int), (0 : Int)), [], Bool.false))), AV.int IntKind.i64 (Prod.fst (Prod.snd (List.getD l_854 (Int.toNat s_888) ([], (0 : Int), ((0 : Int), (0 : Int), (0 : Int)), [], Bool.false)))), AV.int IntKind.i64 (Prod.fst (Prod.fst (Prod.snd (Prod.snd (List.getD l_854 (Int.toNat s_888) ([], (0 : Int), ((0 : Int), (0 : Int), (0 : Int)), [], Bool.false)))))), AV.int IntKind.i64 (Prod.fst (Prod.snd (Prod.fst (Prod.snd (Prod.snd (List.getD l_854 (Int.toNat s_888) ([], (0 : Int), ((0 : Int), (0 : Int), (0 : Int)), [], Bool.false))))))), AV.int IntKind.i64 (Prod.snd (Prod.snd (Prod.fst (Prod.snd (Prod.snd (List.getD l_854 (Int.toNat s_888) ([], (0 : Int), ((0 : Int), (0 : Int), (0 : Int)), [], Bool.false))))))), AV.str (Prod.fst (Prod.snd (Prod.snd (Prod.snd (List.getD l_854 (Int.toNat s_888) ([], (0 : Int), ((0 : Int), (0 : Int), (0 : Int)), [], Bool.false)))))), AV.bool (Prod.snd (Prod.snd (Prod.snd (Prod.snd (List.getD l_854 (Int.toNat s_888) ([], (0 : Int), ((0 : Int), (0 : Int), (0 : Int)), [], Bool.false))))))]] (0 : Nat)))) ((0 : Int))) (by kernel_rfl) ?_
            refine W.loop (fun (s_889 : Int) => (Cfg.mk Mode.run (headTodo Go.Proofs.Tryd.prog 38 1) (St.mk [AV.list (Ty.prod Ty.str (Ty.prod (Ty.int IntKind.i64) (Ty.prod (Ty.prod (Ty.int IntKind.i64) (Ty.prod (Ty.int IntKind.i64) (Ty.int IntKind.i64))) (Ty.prod Ty.str Ty.bool)))) l_854 Bool.false, jj, jj, jj, AV.ptr (0 : Nat) (0 : Nat), jj, jj, jj, jj, jj, AV.list (Ty.prod Ty.str (Ty.prod (Ty.int IntKind.i64) (Ty.prod (Ty.prod (Ty.int IntKind.i64) (Ty.prod (Ty.int IntKind.i64) (Ty.int IntKind.i64))) (Ty.prod Ty.str Ty.bool)))) l_854 Bool.false, AV.int IntKind.i64 (↑(List.length l_854) : Int), AV.int IntKind.i64 s_888, jj, jj, jj, jj, jj, jj, jj, jj, jj, jj, jj, jj, jj, jj, jj, jj, jj, jj, jj, jj, jj, jj, jj, jj, AV.list (Ty.prod Ty.str (Ty.prod (Ty.int IntKind.i64) (Ty.prod (Ty.prod (Ty.int IntKind.i64) (Ty.prod (Ty.int IntKind.i64) (Ty.int IntKind.i64))) (Ty.prod Ty.str Ty.bool)))) (List.drop (Int.toNat (0 : Int)) (List.take (Int.toNat s_888) l_854)) Bool.false, AV.int IntKind.i64 (↑(List.length (List.drop (Int.toNat (0 : Int)) (List.take (Int.toNat s_888) l_854))) : Int), AV.int IntKind.i64 s_889, jj, jj, jj, jj, jj, jj, jj, jj, jj, jj, jj, jj, jj, jj, jj] [AO.box [AV.str (Prod.fst (List.getD l_854 (Int.toNat s_888) ([], (0 : Int), ((0 : Int), (0 : Int), (0 : Int)), [], Bool.false))), AV.int IntKind.i64 (Prod.fst (Prod.snd (List.getD l_854 (Int.toNat s_888) ([], (0 : Int), ((0 : Int), (0 : Int), (0 : Int)), [], Bool.false)))), AV.int IntKind.i64 (Prod.fst (Prod.fst (Prod.snd (Prod.snd (List.getD l_854 (Int.toNat s_888) ([], (0 : Int), ((0 : Int), (0 : Int), (0 : Int)), [], Bool.false)))))), AV.int IntKind.i64 (Prod.fst (Prod.snd (Prod.fst (Prod.snd (Prod.snd (List.getD l_854 (Int.toNat s_888) ([], (0 : Int), ((0 : Int), (0 : Int), (0 : Int)), [], Bool.false))))))), AV.int IntKind.i64 (Prod.snd (Prod.snd (Prod.fst (Prod.snd (Prod.snd (List.getD l_854 (Int.toNat s_888) ([], (0 : Int), ((0 : Int), (0 : Int), (0 : Int)), [], Bool.false))))))), AV.str (Prod.fst (Prod.snd (Prod.snd (Prod.snd (List.getD l_854 (Int.toNat s_888) ([], (0 : Int), ((0 : Int), (0 : Int), (0 : Int)), [], Bool.false)))))), AV.bool (Prod.snd (Prod.snd (Prod.snd (Prod.snd (List.getD l_854 (Int.toNat s_888) ([], (0 : Int), ((0 : Int), (0 : Int), (0 : Int)), [], Bool.false))))))]] (0 : Nat)))) (fun t => (Sum.elim (fun t_877 => r = (Bool.false)) (fun t_878 => Walk Go.Proofs.Tryd.prog 38 (Cfg.mk Mode.run ((headTodo Go.Proofs.Tryd.prog 38 1).drop 3) (St.mk [AV.list (Ty.prod Ty.str (Ty.prod (Ty.int IntKind.i64) (Ty.prod (Ty.prod (Ty.int IntKind.i64) (Ty.prod (Ty.int IntKind.i64) (Ty.int IntKind.i64))) (Ty.prod Ty.str Ty.bool)))) l_854 Bool.false, jj, jj, jj, jj, jj, jj, jj, jj, jj, AV.list (Ty.prod Ty.str (Ty.prod (Ty.int IntKind.i64) (Ty.prod (Ty.prod (Ty.int IntKind.i64) (Ty.prod (Ty.int IntKind.i64) (Ty.int IntKind.i64))) (Ty.prod Ty.str Ty.bool)))) l_854 Bool.false, AV.int IntKind.i64 (↑(List.length l_854) : Int), AV.int IntKind.i64 s_888, jj, jj, jj, jj, jj, jj, jj, jj, jj, jj, jj, jj, jj, jj, jj, jj, jj, jj, jj, jj, jj, jj, jj, jj, jj, jj, jj, jj, jj, jj, jj, jj, jj, jj, jj, jj, jj, jj, jj, jj, jj, jj] [] (0 : Nat))) (pack_files_res r) (pack_files_out r))) t) h884 (fun t h884 => ?_) (fun s_889 x880 h880 K880 => ?_)
            ·
              rcases t with t_877 | t_878
              · replace h884 := W.inl (h884)
                refine W.elimL (?_)
                cases h884; exact K884
              · replace h884 := W.inr (h884)
                refine W.elimR (?_)
                cases h884; exact W.at 2 100000 [] [0, 10, 11, 12] (by kernel_rfl) K884
            · unfold pack_files_b0 at h880
              refine W.cond 6 100000 h880 (by kernel_rfl) (fun h880 => ?_) (fun h880 => ?_)
              ·
                refine W.needT 6 100000 h880 (by kernel_rfl) (fun h880 => ?_)
                refine W.cond 6 100000 h880 (by kernel_rfl) (fun h880 => ?_) (fun h880 => ?_)
                ·
                  refine W.yes 6 100000 (by kernel_rfl) ?_
                  refine W.yes 6 100000 (by kernel_rfl) ?_
                  refine W.yes 6 100000 (by kernel_rfl) ?_
                  refine W.yes 6 100000 (by kernel_rfl) ?_
                  refine W.bind h880 fun a_876 ha_876 h880 => ?_
                  refine W.call 6 100000 (by kernel_rfl) (path_Under_con ha_876) (by kernel_rfl) ?_
                  refine W.yes 6 100000 (by kernel_rfl) ?_
                  refine W.cond 6 100000 h880 (by kernel_rfl) (fun h880 => ?_) (fun h880 => ?_)
                  ·
                    cases h880; exact W.retK 6 100000 K880 (by kernel_rfl)
                  ·
                    cases h880; exact W.at 6 100000 [] [0, 4, 10, 11, 12, 37, 38, 39] (by kernel_rfl) K880
                ·
                  refine W.no 6 100000 (by kernel_rfl) ?_
                  refine W.no 6 100000 (by kernel_rfl) ?_
                  refine W.no 6 100000 (by kernel_rfl) ?_
                  refine W.no 6 100000 (by kernel_rfl) ?_
                  refine W.no 6 100000 (by kernel_rfl) ?_
                  refine W.no 6 100000 (by kernel_rfl) ?_
                  cases h880; exact W.at 6 100000 [] [0, 4, 10, 11, 12, 37, 38, 39] (by kernel_rfl) K880
              ·
                cases h880; exact W.at 6 100000 [] [0, 10, 11, 12] (by kernel_rfl) K880
        · refine W.next 2 6 (by kernel_rfl) ?_
          refine W.bind h881 fun a_859 ha_859 h881 => ?_
          refine W.call 6 100000 (by kernel_rfl) (pack_file_con ha_859) (by kernel_rfl) ?_
          refine W.cond 6 100000 h881 (by kernel_rfl) (fun h881 => ?_) (fun h881 => ?_)
          ·
            refine W.yes 6 100000 (by kernel_rfl) ?_
            refine W.yes 6 100000 (by kernel_rfl) ?_
            refine W.yes 6 100000 (by kernel_rfl) ?_
            refine W.yes 6 100000 (by kernel_rfl) ?_
            refine W.yes 6 100000 (by kernel_rfl) ?_
            cases h881; exact W.retK 6 100000 K881 (by kernel_rfl)
          ·
            refine W.no 6 100000 (by kernel_rfl) ?_
            refine W.no 6 100000 (by kernel_rfl) ?_
            refine W.cond 6 100000 h881 (by kernel_rfl) (fun h881 => ?_) (fun h881 => ?_)
            ·
              refine W.yes 6 100000 (by kernel_rfl) ?_
              refine W.yes 6 100000 (by kernel_rfl) ?_
              refine W.yes 6 100000 (by kernel_rfl) ?_
              refine W.needT 6 100000 h881 (by kernel_rfl) (fun h881 => ?_)
              refine W.yes 6 100000 (by kernel_rfl) ?_
              refine W.yes 6 100000 (by kernel_rfl) ?_
              refine W.yes 6 100000 (by kernel_rfl) ?_
              refine W.yes 6 100000 (by kernel_rfl) ?_
              refine W.yes 6 100000 (by kernel_rfl) ?_
              refine W.no 6 100000 (by kernel_rfl) ?_
              refine W.yes 6 100000 (by kernel_rfl) ?_
              refine W.no 6 100000 (by kernel_rfl) ?_
              refine W.cond 6 100000 h881 (by kernel_rfl) (fun h881 => ?_) (fun h881 => ?_)
              ·
                cases h881; exact W.retK 6 100000 K881 (by kernel_rfl)
              ·
                cases h881; exact W.at 6 100000 [] [0, 3, 4, 10, 11, 12] (by kernel_rfl) K881
            ·
              refine W.no 6 100000 (by kernel_rfl) ?_
              refine W.no 6 100000 (by kernel_rfl) ?_
              refine W.no 6 100000 (by kernel_rfl) ?_
              refine W.no 6 100000 (by kernel_rfl) ?_
              refine W.no 6 100000 (by kernel_rfl) ?_
              refine W.no 6 100000 (by kernel_rfl) ?_
              refine W.no 6 100000 (by kernel_rfl) ?_
              refine W.no 6 100000 (by kernel_rfl) ?_
              refine W.no 6 100000 (by kernel_rfl) ?_
              refine W.no 6 100000 (by kernel_rfl) ?_
              refine W.no 6 100000 (by kernel_rfl) ?_
              refine W.no 6 100000 (by kernel_rfl) ?_
              cases h881; exact W.at 6 100000 [] [0, 3, 4, 10, 11, 12] (by kernel_rfl) K881
      ·
        cases h884; exact W.at 2 100000 [] [] (by kernel_rfl) K884

theorem pack_interests_1_con {y_911 : List UInt8} {y_912 : List UInt8} {y_913 : Bool} {o0_914 : List UInt8} {o0_915 : List UInt8} {o0_916 : Bool} {r : Bool × List UInt8 × List UInt8 × Bool} (h : pack_interests_1 y_911 y_912 y_913 o0_914 o0_915 o0_916 = some r) : Con Go.Proofs.Tryd.prog 57 [AV.agg [AV.str y_911, AV.str y_912, AV.bool y_913], AV.ptr (0 : Nat) (0 : Nat)] [AO.box [AV.str o0_914, AV.str o0_915, AV.bool o0_916]] (pack_interests_1_res r) (pack_interests_1_out r) := by
  refine W.con (by kernel_rfl) ?_
  unfold pack_interests_1 at h
  exact W.retT 0 100000 h (by kernel_rfl)

theorem api_Interest__68_con {s_901 : List (List UInt8 × List UInt8 × Bool)} {o0_902 : List UInt8} {o0_903 : List UInt8} {o0_904 : Bool} {r : Int × List UInt8 × List UInt8 × Bool} (h : api_Interest__68 s_901 o0_902 o0_903 o0_904 = some r) : Con Go.Proofs.Tryd.prog 68 [AV.list (Ty.prod Ty.str (Ty.prod Ty.str Ty.bool)) s_901 Bool.false, AV.func (Go.Fn.func (57 : Nat)) [] [AV.ptr (0 : Nat) (0 : Nat)]] [AO.box [AV.str o0_902, AV.str o0_903, AV.bool o0_904]] (api_Interest__68_res r) (api_Interest__68_out r) := by
  refine W.con (by kernel_rfl) ?_
  unfold api_Interest__68 at h
  refine W.at 0 100000 [] [0, 1, 7, 8] (c' := (fun (s_939 : Int × List UInt8 × List UInt8 × Bool) => (Cfg.mk Mode.run (headTodo Go.Proofs.Tryd.prog 68 0) (St.mk [AV.list (Ty.prod Ty.str (Ty.prod Ty.str Ty.bool)) s_901 Bool.false, AV.func (Go.Fn.func (57 : Nat)) [] [AV.ptr (0 : Nat) (0 : Nat)], jj, jj, jj, jj, jj, AV.int IntKind.i64 (↑(List.length s_901) : Int), AV.int IntKind.i64 (Prod.fst s_939), jj, jj, jj, jj, jj, jj, jj, jj, jj, jj] [AO.box [AV.str (Prod.fst (Prod.snd s_939)), AV.str (Prod.fst (Prod.snd (Prod.snd s_939))), AV.bool (Prod.snd (Prod.snd (Prod.snd s_939)))]] (1 : Nat)))) ((0 : Int), o0_902, o0_903, o0_904)) (by kernel_rfl) ?_
  refine W.loop (fun (s_939 : Int × List UInt8 × List UInt8 × Bool) => (Cfg.mk Mode.run (headTodo Go.Proofs.Tryd.prog 68 0) (St.mk [AV.list (Ty.prod Ty.str (Ty.prod Ty.str Ty.bool)) s_901 Bool.false, AV.func (Go.Fn.func (57 : Nat)) [] [AV.ptr (0 : Nat) (0 : Nat)], jj, jj, jj, jj, jj, AV.int IntKind.i64 (↑(List.length s_901) : Int), AV.int IntKind.i64 (Prod.fst s_939), jj, jj, jj, jj, jj, jj, jj, jj, jj, jj] [AO.box [AV.str (Prod.fst (Prod.snd s_939)), AV.str (Prod.fst (Prod.snd (Prod.snd s_939))), AV.bool (Prod.snd (Prod.snd (Prod.snd s_939)))]] (1 : Nat)))) (fun t => (Sum.elim (fun t_927 => r = (Prod.fst t_927, Prod.fst (Prod.snd t_927), Prod.fst (Prod.snd (Prod.snd t_927)), Prod.snd (Prod.snd (Prod.snd t_927)))) (fun t_931 => Walk Go.Proofs.Tryd.prog 68 (Cfg.mk Mode.run ((headTodo Go.Proofs.Tryd.prog 68 0).drop 3) (St.mk [jj, jj, jj, jj, jj, jj, jj, jj, jj, jj, jj, jj, jj, jj, jj, jj, jj, jj, jj] [AO.box [AV.str (Prod.fst t_931), AV.str (Prod.fst (Prod.snd t_931)), AV.bool (Prod.snd (Prod.snd t_931))]] (1 : Nat))) (api_Interest__68_res r) (api_Interest__68_out r))) t) h (fun t h => ?_) (fun s_939 x933 h933 K933 => ?_)
  ·
    rcases t with t_927 | t_931
    · replace h := W.inl (h)
      refine W.elimL (?_)
      exact (Option.some.inj h).symm
    · replace h := W.inr (h)
      refine W.elimR (?_)
      exact W.retT 0 100000 h (by kernel_rfl)
  · unfold api_Interest__68_b0 at h933
    refine W.cond 2 100000 h933 (by kernel_rfl) (fun h933 => ?_) (fun h933 => ?_)
    ·
      refine W.needT 2 100000 h933 (by kernel_rfl) (fun h933 => ?_)
      refine W.bind h933 fun a_922 ha_922 h933 => ?_
      refine W.call 2 100000 (by kernel_rfl) (pack_interests_1_con ha_922) (by kernel_rfl) ?_
      refine W.cond 2 100000 h933 (by kernel_rfl) (fun h933 => ?_) (fun h933 => ?_)
      ·
        cases h933; exact W.retK 2 100000 K933 (by kernel_rfl)
      ·
        cases h933; exact W.at 2 100000 [] [0, 1, 7, 8] (by kernel_rfl) K933
    ·
      cases h933; exact W.at 2 100000 [] [] (by kernel_rfl) K933

theorem api_Interest__con {s_897 : List (List UInt8 × List UInt8 × Bool)} {o0_898 : List UInt8} {o0_899 : List UInt8} {o0_900 : Bool} {r : Bool × List UInt8 × List UInt8 × Bool} (h : api_Interest_ s_897 o0_898 o0_899 o0_900 = some r) : Con Go.Proofs.Tryd.prog 58 [AV.list (Ty.prod Ty.str (Ty.prod Ty.str Ty.bool)) s_897 Bool.false, AV.func (Go.Fn.func (57 : Nat)) [] [AV.ptr (0 : Nat) (0 : Nat)]] [AO.box [AV.str o0_898, AV.str o0_899, AV.bool o0_900]] (api_Interest__res r) (api_Interest__out r) := by
  refine W.con (by kernel_rfl) ?_
  unfold api_Interest_ at h
  refine W.bind h fun a_940 ha_940 h => ?_
  refine W.call 0 100000 (by kernel_rfl) (api_Interest__68_con ha_940) (by kernel_rfl) ?_
  exact W.retT 0 100000 h (by kernel_rfl)

theorem pack_interests_con {l_891 : List (List UInt8 × List UInt8 × Bool)} {r : Bool} (h : pack_interests l_891 = some r) : Con Go.Proofs.Tryd.prog 39 [AV.list (Ty.prod Ty.str (Ty.prod Ty.str Ty.bool)) l_891 Bool.false] [] (pack_interests_res r) (pack_interests_out r) := by
  refine W.con (by kernel_rfl) ?_
  unfold pack_interests at h
  refine W.at 0 100000 [] [0, 6, 7, 8] (c' := (fun (s_953 : Int) => (Cfg.mk Mode.run (headTodo Go.Proofs.Tryd.prog 39 0) (St.mk [AV.list (Ty.prod Ty.str (Ty.prod Ty.str Ty.bool)) l_891 Bool.false, jj, jj, jj, jj, jj, AV.list (Ty.prod Ty.str (Ty.prod Ty.str Ty.bool)) l_891 Bool.false, AV.int IntKind.i64 (↑(List.length l_891) : Int), AV.int IntKind.i64 s_953, jj, jj, jj, jj, jj, jj, jj, jj, jj, jj, jj, jj, jj, jj, jj, jj, jj, jj, jj, jj] [] (0 : Nat)))) ((0 : Int))) (by kernel_rfl) ?_
  refine W.loop (fun (s_953 : Int) => (Cfg.mk Mode.run (headTodo Go.Proofs.Tryd.prog 39 0) (St.mk [AV.list (Ty.prod Ty.str (Ty.prod Ty.str Ty.bool)) l_891 Bool.false, jj, jj, jj, jj, jj, AV.list (Ty.prod Ty.str (Ty.prod Ty.str Ty.bool)) l_891 Bool.false, AV.int IntKind.i64 (↑(List.length l_891) : Int), AV.int IntKind.i64 s_953, jj, jj, jj, jj, jj, jj, jj, jj, jj, jj, jj, jj, jj, jj, jj, jj, jj, jj, jj, jj] [] (0 : Nat)))) (fun t => (Sum.elim (fun t_947 => r = (Bool.false)) (fun t_948 => Walk Go.Proofs.Tryd.prog 39 (Cfg.mk Mode.run ((headTodo Go.Proofs.Tryd.prog 39 0).drop 3) (St.mk [AV.list (Ty.prod Ty.str (Ty.prod Ty.str Ty.bool)) l_891 Bool.false, jj, jj, jj, jj, jj, jj, jj, jj, jj, jj, jj, jj, jj, jj, jj, jj, jj, jj, jj, jj, jj, jj, jj, jj, jj, jj, jj, jj] [] (0 : Nat))) (pack_interests_res r) (pack_interests_out r))) t) h (fun t h => ?_) (fun s_953 x950 h950 K950 => ?_)
  ·
    rcases t with t_947 | t_948
    · replace h := W.inl (h)
      refine W.elimL (?_)
      exact (Option.some.inj h).symm
    · replace h := W.inr (h)
      refine W.elimR (?_)
      exact W.retT 0 100000 h (by kernel_rfl)
  · unfold pack_interests_b0 at h950
    refine W.cond 2 100000 h950 (by kernel_rfl) (fun h950 => ?_) (fun h950 => ?_)
    ·
      refine W.needT 2 100000 h950 (by kernel_rfl) (fun h950 => ?_)
      refine W.bind h950 fun a_896 ha_896 h950 => ?_
      refine W.call 2 100000 (by kernel_rfl) (status_Trigger_con ha_896) (by kernel_rfl) ?_
      refine W.cond 2 100000 h950 (by kernel_rfl) (fun h950 => ?_) (fun h950 => ?_)
      ·
        refine W.yes 2 100000 (by kernel_rfl) ?_
        refine W.yes 2 100000 (by kernel_rfl) ?_
        refine W.yes 2 100000 (by kernel_rfl) ?_
        refine W.yes 2 100000 (by kernel_rfl) ?_
        refine W.yes 2 100000 (by kernel_rfl) ?_
        refine W.yes 2 100000 (by kernel_rfl) ?_
        cases h950; exact W.retK 2 100000 K950 (by kernel_rfl)
      ·
        refine W.no 2 100000 (by kernel_rfl) ?_
        refine W.no 2 100000 (by kernel_rfl) ?_
        refine W.needT 2 100000 h950 (by kernel_rfl) (fun h950 => ?_)
        refine W.no 2 100000 (by kernel_rfl) ?_
        refine W.no 2 100000 (by kernel_rfl) ?_
        refine W.bind h950 fun a_946 ha_946 h950 => ?_
        refine W.call 2 100000 (by kernel_rfl) (api_Interest__con ha_946) (by kernel_rfl) ?_
        refine W.no 2 100000 (by kernel_rfl) ?_
        refine W.cond 2 100000 h950 (by kernel_rfl) (fun h950 => ?_) (fun h950 => ?_)
        ·
          cases h950; exact W.retK 2 100000 K950 (by kernel_rfl)
        ·
          cases h950; exact W.at 2 100000 [] [0, 6, 7, 8] (by kernel_rfl) K950
    ·
      cases h950; exact W.at 2 100000 [] [0] (by kernel_rfl) K950

theorem pack_Right_1_con {s_977 : List UInt8} {r : Bool} (h : pack_Right_1 s_977 = some r) : Con Go.Proofs.Tryd.prog 35 [AV.str s_977] [] (pack_Right_1_res r) (pack_Right_1_out r) := by
  refine W.con (by kernel_rfl) ?_
  unfold pack_Right_1 at h
  refine W.bind h fun a_978 ha_978 h => ?_
  refine W.call 0 100000 (by kernel_rfl) (path_Name_con ha_978) (by kernel_rfl) ?_
  exact W.retT 0 100000 h (by kernel_rfl)

theorem slices_IndexFunc___string_string__con {s_973 : List (List UInt8)} {r : Int} (h : slices_IndexFunc___string_string_ s_973 = some r) : Con Go.Proofs.Tryd.prog 54 [AV.list Ty.str s_973 Bool.false, AV.func (Go.Fn.func (35 : Nat)) [] []] [] (slices_IndexFunc___string_string__res r) (slices_IndexFunc___string_string__out r) := by
  refine W.con (by kernel_rfl) ?_
  unfold slices_IndexFunc___string_string_ at h
  refine W.at 0 100000 [] [0, 1, 7, 8] (c' := (fun (s_989 : Int) => (Cfg.mk Mode.run (headTodo Go.Proofs.Tryd.prog 54 0) (St.mk [AV.list Ty.str s_973 Bool.false, AV.func (Go.Fn.func (35 : Nat)) [] [], jj, jj, jj, jj, jj, AV.int IntKind.i64 (↑(List.length s_973) : Int), AV.int IntKind.i64 s_989, jj, jj, jj, jj, jj, jj, jj, jj, jj, jj] [] (0 : Nat)))) ((0 : Int))) (by kernel_rfl) ?_
  refine W.loop (fun (s_989 : Int) => (Cfg.mk Mode.run (headTodo Go.Proofs.Tryd.prog 54 0) (St.mk [AV.list Ty.str s_973 Bool.false, AV.func (Go.Fn.func (35 : Nat)) [] [], jj, jj, jj, jj, jj, AV.int IntKind.i64 (↑(List.length s_973) : Int), AV.int IntKind.i64 s_989, jj, jj, jj, jj, jj, jj, jj, jj, jj, jj] [] (0 : Nat)))) (fun t => (Sum.elim (fun t_983 => r = (t_983)) (fun t_984 => Walk Go.Proofs.Tryd.prog 54 (Cfg.mk Mode.run ((headTodo Go.Proofs.Tryd.prog 54 0).drop 3) (St.mk [jj, jj, jj, jj, jj, jj, jj, jj, jj, jj, jj, jj, jj, jj, jj, jj, jj, jj, jj] [] (0 : Nat))) (slices_IndexFunc___string_string__res r) (slices_IndexFunc___string_string__out r))) t) h (fun t h => ?_) (fun s_989 x986 h986 K986 => ?_)
  ·
    rcases t with t_983 | t_984
    · replace h := W.inl (h)
      refine W.elimL (?_)
      exact (Option.some.inj h).symm
    · replace h := W.inr (h)
      refine W.elimR (?_)
      exact W.retT 0 100000 h (by kernel_rfl)
  · unfold slices_IndexFunc___string_string__b0 at h986
    refine W.cond 2 100000 h986 (by kernel_rfl) (fun h986 => ?_) (fun h986 => ?_)
    ·
      refine W.needT 2 100000 h986 (by kernel_rfl) (fun h986 => ?_)
      refine W.bind h986 fun a_981 ha_981 h986 => ?_
      refine W.call 2 100000 (by kernel_rfl) (pack_Right_1_con ha_981) (by kernel_rfl) ?_
      refine W.cond 2 100000 h986 (by kernel_rfl) (fun h986 => ?_) (fun h986 => ?_)
      ·
        cases h986; exact W.retK 2 100000 K986 (by kernel_rfl)
      ·
        cases h986; exact W.at 2 100000 [] [0, 1, 7, 8] (by kernel_rfl) K986
    ·
      cases h986; exact W.at 2 100000 [] [] (by kernel_rfl) K986

theorem slices_ContainsFunc___string_string__con {s_972 : List (List UInt8)} {r : Bool} (h : slices_ContainsFunc___string_string_ s_972 = some r) : Con Go.Proofs.Tryd.prog 34 [AV.list Ty.str s_972 Bool.false, AV.func (Go.Fn.func (35 : Nat)) [] []] [] (slices_ContainsFunc___string_string__res r) (slices_ContainsFunc___string_string__out r) := by
  refine W.con (by kernel_rfl) ?_
  unfold slices_ContainsFunc___string_string_ at h
  refine W.bind h fun a_990 ha_990 h => ?_
  refine W.call 0 100000 (by kernel_rfl) (slices_IndexFunc___string_string__con ha_990) (by kernel_rfl) ?_
  exact W.retT 0 100000 h (by kernel_rfl)

theorem api_Act__55_con {s_1011 : List (Int × List UInt8 × List UInt8 × List UInt8 × (Int × Int × Int) × Int × Bool × Bool × List (List UInt8 × List UInt8) × List (List UInt8))} {r : Int} (h : api_Act__55 s_1011 = some r) : Con Go.Proofs.Tryd.prog 55 [AV.list (Ty.prod (Ty.int IntKind.i64) (Ty.prod Ty.str (Ty.prod Ty.str (Ty.prod Ty.str (Ty.prod (Ty.prod (Ty.int IntKind.i64) (Ty.prod (Ty.int IntKind.i64) (Ty.int IntKind.i64))) (Ty.prod (Ty.int IntKind.i64) (Ty.prod Ty.bool (Ty.prod Ty.bool (Ty.prod (Ty.list (Ty.prod Ty.str Ty.str)) (Ty.list Ty.str)))))))))) s_1011 Bool.false, AV.func (Go.Fn.func (37 : Nat)) [] []] [] (api_Act__55_res r) (api_Act__55_out r) := by
  refine W.con (by kernel_rfl) ?_
  unfold api_Act__55 at h
  refine W.at 0 100000 [] [0, 1, 7, 8] (c' := (fun (s_1023 : Int) => (Cfg.mk Mode.run (headTodo Go.Proofs.Tryd.prog 55 0) (St.mk [AV.list (Ty.prod (Ty.int IntKind.i64) (Ty.prod Ty.str (Ty.prod Ty.str (Ty.prod Ty.str (Ty.prod (Ty.prod (Ty.int IntKind.i64) (Ty.prod (Ty.int IntKind.i64) (Ty.int IntKind.i64))) (Ty.prod (Ty.int IntKind.i64) (Ty.prod Ty.bool (Ty.prod Ty.bool (Ty.prod (Ty.list (Ty.prod Ty.str Ty.str)) (Ty.list Ty.str)))))))))) s_1011 Bool.false, AV.func (Go.Fn.func (37 : Nat)) [] [], jj, jj, jj, jj, jj, AV.int IntKind.i64 (↑(List.length s_1011) : Int), AV.int IntKind.i64 s_1023, jj, jj, jj, jj, jj, jj, jj, jj, jj, jj] [] (0 : Nat)))) ((0 : Int))) (by kernel_rfl) ?_
  refine W.loop (fun (s_1023 : Int) => (Cfg.mk Mode.run (headTodo Go.Proofs.Tryd.prog 55 0) (St.mk [AV.list (Ty.prod (Ty.int IntKind.i64) (Ty.prod Ty.str (Ty.prod Ty.str (Ty.prod Ty.str (Ty.prod (Ty.prod (Ty.int IntKind.i64) (Ty.prod (Ty.int IntKind.i64) (Ty.int IntKind.i64))) (Ty.prod (Ty.int IntKind.i64) (Ty.prod Ty.bool (Ty.prod Ty.bool (Ty.prod (Ty.list (Ty.prod Ty.str Ty.str)) (Ty.list Ty.str)))))))))) s_1011 Bool.false, AV.func (Go.Fn.func (37 : Nat)) [] [], jj, jj, jj, jj, jj, AV.int IntKind.i64 (↑(List.length s_1011) : Int), AV.int IntKind.i64 s_1023, jj, jj, jj, jj, jj, jj, jj, jj, jj, jj] [] (0 : Nat)))) (fun t => (Sum.elim (fun t_1017 => r = (t_1017)) (fun t_1018 => Walk Go.Proofs.Tryd.prog 55 (Cfg.mk Mode.run ((headTodo Go.Proofs.Tryd.prog 55 0).drop 3) (St.mk [jj, jj, jj, jj, jj, jj, jj, jj, jj, jj, jj, jj, jj, jj, jj, jj, jj, jj, jj] [] (0 : Nat))) (api_Act__55_res r) (api_Act__55_out r))) t) h (fun t h => ?_) (fun s_1023 x1020 h1020 K1020 => ?_)
  ·
    rcases t with t_1017 | t_1018
    · replace h := W.inl (h)
      refine W.elimL (?_)
      exact (Option.some.inj h).symm
    · replace h := W.inr (h)
      refine W.elimR (?_)
      exact W.retT 0 100000 h (by kernel_rfl)
  · unfold api_Act__55_b0 at h1020
    refine W.cond 2 100000 h1020 (by kernel_rfl) (fun h1020 => ?_) (fun h1020 => ?_)
    ·
      refine W.needT 2 100000 h1020 (by kernel_rfl) (fun h1020 => ?_)
      refine W.bind h1020 fun a_1015 ha_1015 h1020 => ?_
      refine W.call 2 100000 (by kernel_rfl) (pack_odd_con ha_1015) (by kernel_rfl) ?_
      refine W.cond 2 100000 h1020 (by kernel_rfl) (fun h1020 => ?_) (fun h1020 => ?_)
      ·
        cases h1020; exact W.retK 2 100000 K1020 (by kernel_rfl)
      ·
        cases h1020; exact W.at 2 100000 [] [0, 1, 7, 8] (by kernel_rfl) K1020
    ·
      cases h1020; exact W.at 2 100000 [] [] (by kernel_rfl) K1020

theorem api_Act__con {s_1010 : List (Int × List UInt8 × List UInt8 × List UInt8 × (Int × Int × Int) × Int × Bool × Bool × List (List UInt8 × List UInt8) × List (List UInt8))} {r : Bool} (h : api_Act_ s_1010 = some r) : Con Go.Proofs.Tryd.prog 36 [AV.list (Ty.prod (Ty.int IntKind.i64) (Ty.prod Ty.str (Ty.prod Ty.str (Ty.prod Ty.str (Ty.prod (Ty.prod (Ty.int IntKind.i64) (Ty.prod (Ty.int IntKind.i64) (Ty.int IntKind.i64))) (Ty.prod (Ty.int IntKind.i64) (Ty.prod Ty.bool (Ty.prod Ty.bool (Ty.prod (Ty.list (Ty.prod Ty.str Ty.str)) (Ty.list Ty.str)))))))))) s_1010 Bool.false, AV.func (Go.Fn.func (37 : Nat)) [] []] [] (api_Act__res r) (api_Act__out r) := by
  refine W.con (by kernel_rfl) ?_
  unfold api_Act_ at h
  refine W.bind h fun a_1024 ha_1024 h => ?_
  refine W.call 0 100000 (by kernel_rfl) (api_Act__55_con ha_1024) (by kernel_rfl) ?_
  exact W.retT 0 100000 h (by kernel_rfl)

theorem pack_Right_con {x_955 : List UInt8} {x_956 : List UInt8} {x_957 : List (List (List UInt8 × List UInt8 × List UInt8))} {x_958 : List (List UInt8 × List UInt8 × List UInt8)} {x_959 : List (List UInt8)} {x_960 : List (List UInt8 × Int × (Int × Int × Int) × List UInt8 × Bool)} {x_961 : List (List UInt8 × List UInt8 × Bool)} {x_962 : List (Int × List UInt8 × List UInt8 × List UInt8 × (Int × Int × Int) × Int × Bool × Bool × List (List UInt8 × List UInt8) × List (List UInt8))} {x_963 : List (Int × List UInt8 × List UInt8 × List UInt8 × (Int × Int × Int) × Int × Bool × Bool × List (List UInt8 × List UInt8) × List (List UInt8))} {x_964 : List (Int × List UInt8 × List UInt8 × List UInt8 × (Int × Int × Int) × Int × Bool × Bool × List (List UInt8 × List UInt8) × List (List UInt8))} {x_965 : List (Int × List UInt8 × List UInt8 × List UInt8 × (Int × Int × Int) × Int × Bool × Bool × List (List UInt8 × List UInt8) × List (List UInt8))} {r : Bool} (h : pack_Right x_955 x_956 x_957 x_958 x_959 x_960 x_961 x_962 x_963 x_964 x_965 = some r) : Con Go.Proofs.Tryd.prog 11 [AV.agg [AV.str x_955, AV.str x_956, AV.list (Ty.list (Ty.prod Ty.str (Ty.prod Ty.str Ty.str))) x_957 Bool.false, AV.list (Ty.prod Ty.str (Ty.prod Ty.str Ty.str)) x_958 Bool.false, AV.list Ty.str x_959 Bool.false, AV.list (Ty.prod Ty.str (Ty.prod (Ty.int IntKind.i64) (Ty.prod (Ty.prod (Ty.int IntKind.i64) (Ty.prod (Ty.int IntKind.i64) (Ty.int IntKind.i64))) (Ty.prod Ty.str Ty.bool)))) x_960 Bool.false, AV.list (Ty.prod Ty.str (Ty.prod Ty.str Ty.bool)) x_961 Bool.false, AV.list (Ty.prod (Ty.int IntKind.i64) (Ty.prod Ty.str (Ty.prod Ty.str (Ty.prod Ty.str (Ty.prod (Ty.prod (Ty.int IntKind.i64) (Ty.prod (Ty.int IntKind.i64) (Ty.int IntKind.i64))) (Ty.prod (Ty.int IntKind.i64) (Ty.prod Ty.bool (Ty.prod Ty.bool (Ty.prod (Ty.list (Ty.prod Ty.str Ty.str)) (Ty.list Ty.str)))))))))) x_962 Bool.false, AV.list (Ty.prod (Ty.int IntKind.i64) (Ty.prod Ty.str (Ty.prod Ty.str (Ty.prod Ty.str (Ty.prod (Ty.prod (Ty.int IntKind.i64) (Ty.prod (Ty.int IntKind.i64) (Ty.int IntKind.i64))) (Ty.prod (Ty.int IntKind.i64) (Ty.prod Ty.bool (Ty.prod Ty.bool (Ty.prod (Ty.list (Ty.prod Ty.str Ty.str)) (Ty.list Ty.str)))))))))) x_963 Bool.false, AV.list (Ty.prod (Ty.int IntKind.i64) (Ty.prod Ty.str (Ty.prod Ty.str (Ty.prod Ty.str (Ty.prod (Ty.prod (Ty.int IntKind.i64) (Ty.prod (Ty.int IntKind.i64) (Ty.int IntKind.i64))) (Ty.prod (Ty.int IntKind.i64) (Ty.prod Ty.bool (Ty.prod Ty.bool (Ty.prod (Ty.list (Ty.prod Ty.str Ty.str)) (Ty.list Ty.str)))))))))) x_964 Bool.false, AV.list (Ty.prod (Ty.int IntKind.i64) (Ty.prod Ty.str (Ty.prod Ty.str (Ty.prod Ty.str (Ty.prod (Ty.prod (Ty.int IntKind.i64) (Ty.prod (Ty.int IntKind.i64) (Ty.int IntKind.i64))) (Ty.prod (Ty.int IntKind.i64) (Ty.prod Ty.bool (Ty.prod Ty.bool (Ty.prod (Ty.list (Ty.prod Ty.str Ty.str)) (Ty.list Ty.str)))))))))) x_965 Bool.false]] [] (pack_Right_res r) (pack_Right_out r) := by
  refine W.con (by kernel_rfl) ?_
  unfold pack_Right at h
  refine W.bind h fun a_966 ha_966 h => ?_
  refine W.call 0 100000 (by kernel_rfl) (version_Parse_con ha_966) (by kernel_rfl) ?_
  refine W.bind h fun a_967 ha_967 h => ?_
  refine W.call 0 100000 (by kernel_rfl) (relation_All_con ha_967) (by kernel_rfl) ?_
  refine W.bind h fun a_968 ha_968 h => ?_
  refine W.call 0 100000 (by kernel_rfl) (relation_List_con ha_968) (by kernel_rfl) ?_
  refine W.join (fun t => (Sum.elim (fun t_970 => r = (Bool.false)) (fun t_971 => Walk Go.Proofs.Tryd.prog 11 (Cfg.mk Mode.run (seqTodo Go.Proofs.Tryd.prog 11 4) (St.mk [jj, AV.ptr (0 : Nat) (0 : Nat), jj, jj, jj, jj, jj, jj, jj, jj, jj, jj, jj, jj, jj, jj, jj, jj, jj, jj, jj, jj, jj, jj, jj, jj, jj, jj, jj, jj, jj, jj, jj, jj, jj, jj, jj, jj, jj, jj, jj, jj, jj, jj, jj, jj, jj, jj, jj, jj, jj, jj, jj, jj, jj, jj, jj, jj, jj, jj, jj, jj, jj, jj, jj, jj, jj, jj, jj, jj, jj, jj, jj, jj, jj] [AO.box [AV.str x_955, AV.str x_956, AV.list (Ty.list (Ty.prod Ty.str (Ty.prod Ty.str Ty.str))) x_957 Bool.false, AV.list (Ty.prod Ty.str (Ty.prod Ty.str Ty.str)) x_958 Bool.false, AV.list Ty.str x_959 Bool.false, AV.list (Ty.prod Ty.str (Ty.prod (Ty.int IntKind.i64) (Ty.prod (Ty.prod (Ty.int IntKind.i64) (Ty.prod (Ty.int IntKind.i64) (Ty.int IntKind.i64))) (Ty.prod Ty.str Ty.bool)))) x_960 Bool.false, AV.list (Ty.prod Ty.str (Ty.prod Ty.str Ty.bool)) x_961 Bool.false, AV.list (Ty.prod (Ty.int IntKind.i64) (Ty.prod Ty.str (Ty.prod Ty.str (Ty.prod Ty.str (Ty.prod (Ty.prod (Ty.int IntKind.i64) (Ty.prod (Ty.int IntKind.i64) (Ty.int IntKind.i64))) (Ty.prod (Ty.int IntKind.i64) (Ty.prod Ty.bool (Ty.prod Ty.bool (Ty.prod (Ty.list (Ty.prod Ty.str Ty.str)) (Ty.list Ty.str)))))))))) x_962 Bool.false, AV.list (Ty.prod (Ty.int IntKind.i64) (Ty.prod Ty.str (Ty.prod Ty.str (Ty.prod Ty.str (Ty.prod (Ty.prod (Ty.int IntKind.i64) (Ty.prod (Ty.int IntKind.i64) (Ty.int IntKind.i64))) (Ty.prod (Ty.int IntKind.i64) (Ty.prod Ty.bool (Ty.prod Ty.bool (Ty.prod (Ty.list (Ty.prod Ty.str Ty.str)) (Ty.list Ty.str)))))))))) x_963 Bool.false, AV.list (Ty.prod (Ty.int IntKind.i64) (Ty.prod Ty.str (Ty.prod Ty.str (Ty.prod Ty.str (Ty.prod (Ty.prod (Ty.int IntKind.i64) (Ty.prod (Ty.int IntKind.i64) (Ty.int IntKind.i64))) (Ty.prod (Ty.int IntKind.i64) (Ty.prod Ty.bool (Ty.prod Ty.bool (Ty.prod (Ty.list (Ty.prod Ty.str Ty.str)) (Ty.list Ty.str)))))))))) x_964 Bool.false, AV.list (Ty.prod (Ty.int IntKind.i64) (Ty.prod Ty.str (Ty.prod Ty.str (Ty.prod Ty.str (Ty.prod (Ty.prod (Ty.int IntKind.i64) (Ty.prod (Ty.int IntKind.i64) (Ty.int IntKind.i64))) (Ty.prod (Ty.int IntKind.i64) (Ty.prod Ty.bool (Ty.prod Ty.bool (Ty.prod (Ty.list (Ty.prod Ty.str Ty.str)) (Ty.list Ty.str)))))))))) x_965 Bool.false]] (0 : Nat))) (pack_Right_res r) (pack_Right_out r))) t) h (fun t h => ?_) (fun t1034 h1034 K1034 => ?_)
  ·
    rcases t with t_970 | t_971
    · replace h := W.inl (h)
      refine W.elimL (?_)
      exact (Option.some.inj h).symm
    · replace h := W.inr (h)
      refine W.elimR (?_)
      refine W.bind h fun a_993 ha_993 h => ?_
      refine W.call 0 100000 (by kernel_rfl) (slices_ContainsFunc___string_string__con ha_993) (by kernel_rfl) ?_
      refine W.cond 0 100000 h (by kernel_rfl) (fun h => ?_) (fun h => ?_)
      ·
        exact W.retT 0 100000 h (by kernel_rfl)
      ·
        refine W.at 0 100000 [] [1, 55, 56] (c' := (fun (s_1037 : Int) => (Cfg.mk Mode.run (headTodo Go.Proofs.Tryd.prog 11 0) (St.mk [jj, AV.ptr (0 : Nat) (0 : Nat), jj, jj, jj, jj, jj, jj, jj, jj, jj, jj, jj, jj, jj, jj, jj, jj, jj, jj, jj, jj, jj, jj, jj, jj, jj, jj, jj, jj, jj, jj, jj, jj, jj, jj, jj, jj, jj, jj, jj, jj, jj, jj, jj, jj, jj, jj, jj, jj, jj, jj, jj, jj, jj, AV.agg [AV.list (Ty.prod (Ty.int IntKind.i64) (Ty.prod Ty.str (Ty.prod Ty.str (Ty.prod Ty.str (Ty.prod (Ty.prod (Ty.int IntKind.i64) (Ty.prod (Ty.int IntKind.i64) (Ty.int IntKind.i64))) (Ty.prod (Ty.int IntKind.i64) (Ty.prod Ty.bool (Ty.prod Ty.bool (Ty.prod (Ty.list (Ty.prod Ty.str Ty.str)) (Ty.list Ty.str)))))))))) x_962 Bool.false, AV.list (Ty.prod (Ty.int IntKind.i64) (Ty.prod Ty.str (Ty.prod Ty.str (Ty.prod Ty.str (Ty.prod (Ty.prod (Ty.int IntKind.i64) (Ty.prod (Ty.int IntKind.i64) (Ty.int IntKind.i64))) (Ty.prod (Ty.int IntKind.i64) (Ty.prod Ty.bool (Ty.prod Ty.bool (Ty.prod (Ty.list (Ty.prod Ty.str Ty.str)) (Ty.list Ty.str)))))))))) x_963 Bool.false, AV.list (Ty.prod (Ty.int IntKind.i64) (Ty.prod Ty.str (Ty.prod Ty.str (Ty.prod Ty.str (Ty.prod (Ty.prod (Ty.int IntKind.i64) (Ty.prod (Ty.int IntKind.i64) (Ty.int IntKind.i64))) (Ty.prod (Ty.int IntKind.i64) (Ty.prod Ty.bool (Ty.prod Ty.bool (Ty.prod (Ty.list (Ty.prod Ty.str Ty.str)) (Ty.list Ty.str)))))))))) x_964 Bool.false, AV.list (Ty.prod (Ty.int IntKind.i64) (Ty.prod Ty.str (Ty.prod Ty.str (Ty.prod Ty.str (Ty.prod (Ty.prod (Ty.int IntKind.i64) (Ty.prod (Ty.int IntKind.i64) (Ty.int IntKind.i64))) (Ty.prod (Ty.int IntKind.i64) (Ty.prod Ty.bool (Ty.prod Ty.bool (Ty.prod (Ty.list (Ty.prod Ty.str Ty.str)) (Ty.list Ty.str)))))))))) x_965 Bool.false], AV.int IntKind.i64 s_1037, jj, jj, jj, jj, jj, jj, jj, jj, jj, jj, jj, jj, jj, jj, jj, jj, jj, jj] [AO.box [AV.str x_955, AV.str x_956, AV.list (Ty.list (Ty.prod Ty.str (Ty.prod Ty.str Ty.str))) x_957 Bool.false, AV.list (Ty.prod Ty.str (Ty.prod Ty.str Ty.str)) x_958 Bool.false, AV.list Ty.str x_959 Bool.false, AV.list (Ty.prod Ty.str (Ty.prod (Ty.int IntKind.i64) (Ty.prod (Ty.prod (Ty.int IntKind.i64) (Ty.prod (Ty.int IntKind.i64) (Ty.int IntKind.i64))) (Ty.prod Ty.str Ty.bool)))) x_960 Bool.false, AV.list (Ty.prod Ty.str (Ty.prod Ty.str Ty.bool)) x_961 Bool.false, AV.list (Ty.prod (Ty.int IntKind.i64) (Ty.prod Ty.str (Ty.prod Ty.str (Ty.prod Ty.str (Ty.prod (Ty.prod (Ty.int IntKind.i64) (Ty.prod (Ty.int IntKind.i64) (Ty.int IntKind.i64))) (Ty.prod (Ty.int IntKind.i64) (Ty.prod Ty.bool (Ty.prod Ty.bool (Ty.prod (Ty.list (Ty.prod Ty.str Ty.str)) (Ty.list Ty.str)))))))))) x_962 Bool.false, AV.list (Ty.prod (Ty.int IntKind.i64) (Ty.prod Ty.str (Ty.prod Ty.str (Ty.prod Ty.str (Ty.prod (Ty.prod (Ty.int IntKind.i64) (Ty.prod (Ty.int IntKind.i64) (Ty.int IntKind.i64))) (Ty.prod (Ty.int IntKind.i64) (Ty.prod Ty.bool (Ty.prod Ty.bool (Ty.prod (Ty.list (Ty.prod Ty.str Ty.str)) (Ty.list Ty.str)))))))))) x_963 Bool.false, AV.list (Ty.prod (Ty.int IntKind.i64) (Ty.prod Ty.str (Ty.prod Ty.str (Ty.prod Ty.str (Ty.prod (Ty.prod (Ty.int IntKind.i64) (Ty.prod (Ty.int IntKind.i64) (Ty.int IntKind.i64))) (Ty.prod (Ty.int IntKind.i64) (Ty.prod Ty.bool (Ty.prod Ty.bool (Ty.prod (Ty.list (Ty.prod Ty.str Ty.str)) (Ty.list Ty.str)))))))))) x_964 Bool.false, AV.list (Ty.prod (Ty.int IntKind.i64) (Ty.prod Ty.str (Ty.prod Ty.str (Ty.prod Ty.str (Ty.prod (Ty.prod (Ty.int IntKind.i64) (Ty.prod (Ty.int IntKind.i64) (Ty.int IntKind.i64))) (Ty.prod (Ty.int IntKind.i64) (Ty.prod Ty.bool (Ty.prod Ty.bool (Ty.prod (Ty.list (Ty.prod Ty.str Ty.str)) (Ty.list Ty.str)))))))))) x_965 Bool.false]] (0 : Nat)))) ((0 : Int))) (by kernel_rfl) ?_
        refine W.loop (fun (s_1037 : Int) => (Cfg.mk Mode.run (headTodo Go.Proofs.Tryd.prog 11 0) (St.mk [jj, AV.ptr (0 : Nat) (0 : Nat), jj, jj, jj, jj, jj, jj, jj, jj, jj, jj, jj, jj, jj, jj, jj, jj, jj, jj, jj, jj, jj, jj, jj, jj, jj, jj, jj, jj, jj, jj, jj, jj, jj, jj, jj, jj, jj, jj, jj, jj, jj, jj, jj, jj, jj, jj, jj, jj, jj, jj, jj, jj, jj, AV.agg [AV.list (Ty.prod (Ty.int IntKind.i64) (Ty.prod Ty.str (Ty.prod Ty.str (Ty.prod Ty.str (Ty.prod (Ty.prod (Ty.int IntKind.i64) (Ty.prod (Ty.int IntKind.i64) (Ty.int IntKind.i64))) (Ty.prod (Ty.int IntKind.i64) (Ty.prod Ty.bool (Ty.prod Ty.bool (Ty.prod (Ty.list (Ty.prod Ty.str Ty.str)) (Ty.list Ty.str)))))))))) x_962 Bool.false, AV.list (Ty.prod (Ty.int IntKind.i64) (Ty.prod Ty.str (Ty.prod Ty.str (Ty.prod Ty.str (Ty.prod (Ty.prod (Ty.int IntKind.i64) (Ty.prod (Ty.int IntKind.i64) (Ty.int IntKind.i64))) (Ty.prod (Ty.int IntKind.i64) (Ty.prod Ty.bool (Ty.prod Ty.bool (Ty.prod (Ty.list (Ty.prod Ty.str Ty.str)) (Ty.list Ty.str)))))))))) x_963 Bool.false, AV.list (Ty.prod (Ty.int IntKind.i64) (Ty.prod Ty.str (Ty.prod Ty.str (Ty.prod Ty.str (Ty.prod (Ty.prod (Ty.int IntKind.i64) (Ty.prod (Ty.int IntKind.i64) (Ty.int IntKind.i64))) (Ty.prod (Ty.int IntKind.i64) (Ty.prod Ty.bool (Ty.prod Ty.bool (Ty.prod (Ty.list (Ty.prod Ty.str Ty.str)) (Ty.list Ty.str)))))))))) x_964 Bool.false, AV.list (Ty.prod (Ty.int IntKind.i64) (Ty.prod Ty.str (Ty.prod Ty.str (Ty.prod Ty.str (Ty.prod (Ty.prod (Ty.int IntKind.i64) (Ty.prod (Ty.int IntKind.i64) (Ty.int IntKind.i64))) (Ty.prod (Ty.int IntKind.i64) (Ty.prod Ty.bool (Ty.prod Ty.bool (Ty.prod (Ty.list (Ty.prod Ty.str Ty.str)) (Ty.list Ty.str)))))))))) x_965 Bool.false], AV.int IntKind.i64 s_1037, jj, jj, jj, jj, jj, jj, jj, jj, jj, jj, jj, jj, jj, jj, jj, jj, jj, jj] [AO.box [AV.str x_955, AV.str x_956, AV.list (Ty.list (Ty.prod Ty.str (Ty.prod Ty.str Ty.str))) x_957 Bool.false, AV.list (Ty.prod Ty.str (Ty.prod Ty.str Ty.str)) x_958 Bool.false, AV.list Ty.str x_959 Bool.false, AV.list (Ty.prod Ty.str (Ty.prod (Ty.int IntKind.i64) (Ty.prod (Ty.prod (Ty.int IntKind.i64) (Ty.prod (Ty.int IntKind.i64) (Ty.int IntKind.i64))) (Ty.prod Ty.str Ty.bool)))) x_960 Bool.false, AV.list (Ty.prod Ty.str (Ty.prod Ty.str Ty.bool)) x_961 Bool.false, AV.list (Ty.prod (Ty.int IntKind.i64) (Ty.prod Ty.str (Ty.prod Ty.str (Ty.prod Ty.str (Ty.prod (Ty.prod (Ty.int IntKind.i64) (Ty.prod (Ty.int IntKind.i64) (Ty.int IntKind.i64))) (Ty.prod (Ty.int IntKind.i64) (Ty.prod Ty.bool (Ty.prod Ty.bool (Ty.prod (Ty.list (Ty.prod Ty.str Ty.str)) (Ty.list Ty.str)))))))))) x_962 Bool.false, AV.list (Ty.prod (Ty.int IntKind.i64) (Ty.prod Ty.str (Ty.prod Ty.str (Ty.prod Ty.str (Ty.prod (Ty.prod (Ty.int IntKind.i64) (Ty.prod (Ty.int IntKind.i64) (Ty.int IntKind.i64))) (Ty.prod (Ty.int IntKind.i64) (Ty.prod Ty.bool (Ty.prod Ty.bool (Ty.prod (Ty.list (Ty.prod Ty.str Ty.str)) (Ty.list Ty.str)))))))))) x_963 Bool.false, AV.list (Ty.prod (Ty.int IntKind.i64) (Ty.prod Ty.str (Ty.prod Ty.str (Ty.prod Ty.str (Ty.prod (Ty.prod (Ty.int IntKind.i64) (Ty.prod (Ty.int IntKind.i64) (Ty.int IntKind.i64))) (Ty.prod (Ty.int IntKind.i64) (Ty.prod Ty.bool (Ty.prod Ty.bool (Ty.prod (Ty.list (Ty.prod Ty.str Ty.str)) (Ty.list Ty.str)))))))))) x_964 Bool.false, AV.list (Ty.prod (Ty.int IntKind.i64) (Ty.prod Ty.str (Ty.prod Ty.str (Ty.prod Ty.str (Ty.prod (Ty.prod (Ty.int IntKind.i64) (Ty.prod (Ty.int IntKind.i64) (Ty.int IntKind.i64))) (Ty.prod (Ty.int IntKind.i64) (Ty.prod Ty.bool (Ty.prod Ty.bool (Ty.prod (Ty.list (Ty.prod Ty.str Ty.str)) (Ty.list Ty.str)))))))))) x_965 Bool.false]] (0 : Nat)))) (fun t => (Sum.elim (fun t_1028 => r = (Bool.false)) (fun t_1029 => Walk Go.Proofs.Tryd.prog 11 (Cfg.mk Mode.run ((headTodo Go.Proofs.Tryd.prog 11 0).drop 3) (St.mk [jj, AV.ptr (0 : Nat) (0 : Nat), jj, jj, jj, jj, jj, jj, jj, jj, jj, jj, jj, jj, jj, jj, jj, jj, jj, jj, jj, jj, jj, jj, jj, jj, jj, jj, jj, jj, jj, jj, jj, jj, jj, jj, jj, jj, jj, jj, jj, jj, jj, jj, jj, jj, jj, jj, jj, jj, jj, jj, jj, jj, jj, jj, jj, jj, jj, jj, jj, jj, jj, jj, jj, jj, jj, jj, jj, jj, jj, jj, jj, jj, jj] [AO.box [AV.str x_955, AV.str x_956, AV.list (Ty.list (Ty.prod Ty.str (Ty.prod Ty.str Ty.str))) x_957 Bool.false, AV.list (Ty.prod Ty.str (Ty.prod Ty.str Ty.str)) x_958 Bool.false, AV.list Ty.str x_959 Bool.false, AV.list (Ty.prod Ty.str (Ty.prod (Ty.int IntKind.i64) (Ty.prod (Ty.prod (Ty.int IntKind.i64) (Ty.prod (Ty.int IntKind.i64) (Ty.int IntKind.i64))) (Ty.prod Ty.str Ty.bool)))) x_960 Bool.false, AV.list (Ty.prod Ty.str (Ty.prod Ty.str Ty.bool)) x_961 Bool.false, AV.list (Ty.prod (Ty.int IntKind.i64) (Ty.prod Ty.str (Ty.prod Ty.str (Ty.prod Ty.str (Ty.prod (Ty.prod (Ty.int IntKind.i64) (Ty.prod (Ty.int IntKind.i64) (Ty.int IntKind.i64))) (Ty.prod (Ty.int IntKind.i64) (Ty.prod Ty.bool (Ty.prod Ty.bool (Ty.prod (Ty.list (Ty.prod Ty.str Ty.str)) (Ty.list Ty.str)))))))))) x_962 Bool.false, AV.list (Ty.prod (Ty.int IntKind.i64) (Ty.prod Ty.str (Ty.prod Ty.str (Ty.prod Ty.str (Ty.prod (Ty.prod (Ty.int IntKind.i64) (Ty.prod (Ty.int IntKind.i64) (Ty.int IntKind.i64))) (Ty.prod (Ty.int IntKind.i64) (Ty.prod Ty.bool (Ty.prod Ty.bool (Ty.prod (Ty.list (Ty.prod Ty.str Ty.str)) (Ty.list Ty.str)))))))))) x_963 Bool.false, AV.list (Ty.prod (Ty.int IntKind.i64) (Ty.prod Ty.str (Ty.prod Ty.str (Ty.prod Ty.str (Ty.prod (Ty.prod (Ty.int IntKind.i64) (Ty.prod (Ty.int IntKind.i64) (Ty.int IntKind.i64))) (Ty.prod (Ty.int IntKind.i64) (Ty.prod Ty.bool (Ty.prod Ty.bool (Ty.prod (Ty.list (Ty.prod Ty.str Ty.str)) (Ty.list Ty.str)))))))))) x_964 Bool.false, AV.list (Ty.prod (Ty.int IntKind.i64) (Ty.prod Ty.str (Ty.prod Ty.str (Ty.prod Ty.str (Ty.prod (Ty.prod (Ty.int IntKind.i64) (Ty.prod (Ty.int IntKind.i64) (Ty.int IntKind.i64))) (Ty.prod (Ty.int IntKind.i64) (Ty.prod Ty.bool (Ty.prod Ty.bool (Ty.prod (Ty.list (Ty.prod Ty.str Ty.str)) (Ty.list Ty.str)))))))))) x_965 Bool.false]] (0 : Nat))) (pack_Right_res r) (pack_Right_out r))) t) h (fun t h => ?_) (fun s_1037 x1033 h1033 K1033 => ?_)
        ·
          rcases t with t_1028 | t_1029
          · replace h := W.inl (h)
            refine W.elimL (?_)
            exact (Option.some.inj h).symm
          · replace h := W.inr (h)
            refine W.elimR (?_)
            refine W.bind h fun a_1030 ha_1030 h => ?_
            refine W.call 0 100000 (by kernel_rfl) (pack_files_con ha_1030) (by kernel_rfl) ?_
            refine W.cond 0 100000 h (by kernel_rfl) (fun h => ?_) (fun h => ?_)
            ·
              refine W.yes 0 100000 (by kernel_rfl) ?_
              refine W.yes 0 100000 (by kernel_rfl) ?_
              refine W.bind h fun a_1031 ha_1031 h => ?_
              refine W.call 0 100000 (by kernel_rfl) (pack_interests_con ha_1031) (by kernel_rfl) ?_
              refine W.yes 0 100000 (by kernel_rfl) ?_
              exact W.retT 0 100000 h (by kernel_rfl)
            ·
              refine W.no 0 100000 (by kernel_rfl) ?_
              refine W.no 0 100000 (by kernel_rfl) ?_
              refine W.no 0 100000 (by kernel_rfl) ?_
              exact W.retT 0 100000 h (by kernel_rfl)
        · unfold pack_Right_b0 at h1033
          refine W.cond 2 100000 h1033 (by kernel_rfl) (fun h1033 => ?_) (fun h1033 => ?_)
          ·
            refine W.needT 2 100000 h1033 (by kernel_rfl) (fun h1033 => ?_)
            refine W.cond 2 100000 h1033 (by kernel_rfl) (fun h1033 => ?_) (fun h1033 => ?_)
            ·
              refine W.yes 2 100000 (by kernel_rfl) ?_
              refine W.yes 2 100000 (by kernel_rfl) ?_
              refine W.yes 2 100000 (by kernel_rfl) ?_
              cases h1033; exact W.retK 2 100000 K1033 (by kernel_rfl)
            ·
              refine W.no 2 100000 (by kernel_rfl) ?_
              refine W.bind h1033 fun a_1027 ha_1027 h1033 => ?_
              refine W.call 2 100000 (by kernel_rfl) (api_Act__con ha_1027) (by kernel_rfl) ?_
              refine W.no 2 100000 (by kernel_rfl) ?_
              refine W.cond 2 100000 h1033 (by kernel_rfl) (fun h1033 => ?_) (fun h1033 => ?_)
              ·
                cases h1033; exact W.retK 2 100000 K1033 (by kernel_rfl)
              ·
                cases h1033; exact W.at 2 100000 [] [1, 55, 56] (by kernel_rfl) K1033
          ·
            cases h1033; exact W.at 2 100000 [] [1] (by kernel_rfl) K1033
  · refine W.next 0 7 (by kernel_rfl) ?_
    refine W.bind h1034 fun a_969 ha_969 h1034 => ?_
    refine W.call 1 100000 (by kernel_rfl) (path_Name_con ha_969) (by kernel_rfl) ?_
    refine W.cond 1 100000 h1034 (by kernel_rfl) (fun h1034 => ?_) (fun h1034 => ?_)
    ·
      refine W.yes 1 100000 (by kernel_rfl) ?_
      refine W.yes 1 100000 (by kernel_rfl) ?_
      refine W.yes 1 100000 (by kernel_rfl) ?_
      refine W.yes 1 100000 (by kernel_rfl) ?_
      refine W.yes 1 100000 (by kernel_rfl) ?_
      refine W.yes 1 100000 (by kernel_rfl) ?_
      refine W.yes 1 100000 (by kernel_rfl) ?_
      refine W.yes 1 100000 (by kernel_rfl) ?_
      refine W.yes 1 100000 (by kernel_rfl) ?_
      refine W.yes 1 100000 (by kernel_rfl) ?_
      refine W.yes 1 100000 (by kernel_rfl) ?_
      refine W.yes 1 100000 (by kernel_rfl) ?_
      refine W.yes 1 100000 (by kernel_rfl) ?_
      refine W.yes 1 100000 (by kernel_rfl) ?_
      cases h1034; exact W.retK 1 100000 K1034 (by kernel_rfl)
    ·
      refine W.no 1 100000 (by kernel_rfl) ?_
      refine W.no 1 100000 (by kernel_rfl) ?_
      refine W.cond 1 100000 h1034 (by kernel_rfl) (fun h1034 => ?_) (fun h1034 => ?_)
      ·
        refine W.yes 1 100000 (by kernel_rfl) ?_
        refine W.yes 1 100000 (by kernel_rfl) ?_
        refine W.yes 1 100000 (by kernel_rfl) ?_
        refine W.yes 1 100000 (by kernel_rfl) ?_
        refine W.yes 1 100000 (by kernel_rfl) ?_
        refine W.yes 1 100000 (by kernel_rfl) ?_
        refine W.yes 1 100000 (by kernel_rfl) ?_
        refine W.yes 1 100000 (by kernel_rfl) ?_
        refine W.yes 1 100000 (by kernel_rfl) ?_
        refine W.yes 1 100000 (by kernel_rfl) ?_
        refine W.yes 1 100000 (by kernel_rfl) ?_
        cases h1034; exact W.retK 1 100000 K1034 (by kernel_rfl)
      ·
        refine W.no 1 100000 (by kernel_rfl) ?_
        refine W.no 1 100000 (by kernel_rfl) ?_
        refine W.cond 1 100000 h1034 (by kernel_rfl) (fun h1034 => ?_) (fun h1034 => ?_)
        ·
          refine W.yes 1 100000 (by kernel_rfl) ?_
          refine W.yes 1 100000 (by kernel_rfl) ?_
          refine W.yes 1 100000 (by kernel_rfl) ?_
          refine W.yes 1 100000 (by kernel_rfl) ?_
          refine W.yes 1 100000 (by kernel_rfl) ?_
          refine W.yes 1 100000 (by kernel_rfl) ?_
          refine W.yes 1 100000 (by kernel_rfl) ?_
          refine W.yes 1 100000 (by kernel_rfl) ?_
          cases h1034; exact W.retK 1 100000 K1034 (by kernel_rfl)
        ·
          refine W.no 1 100000 (by kernel_rfl) ?_
          refine W.no 1 100000 (by kernel_rfl) ?_
          refine W.cond 1 100000 h1034 (by kernel_rfl) (fun h1034 => ?_) (fun h1034 => ?_)
          ·
            refine W.yes 1 100000 (by kernel_rfl) ?_
            refine W.yes 1 100000 (by kernel_rfl) ?_
            refine W.yes 1 100000 (by kernel_rfl) ?_
            refine W.yes 1 100000 (by kernel_rfl) ?_
            refine W.yes 1 100000 (by kernel_rfl) ?_
            cases h1034; exact W.retK 1 100000 K1034 (by kernel_rfl)
          ·
            refine W.no 1 100000 (by kernel_rfl) ?_
            refine W.no 1 100000 (by kernel_rfl) ?_
            refine W.no 1 100000 (by kernel_rfl) ?_
            refine W.no 1 100000 (by kernel_rfl) ?_
            refine W.cond 1 100000 h1034 (by kernel_rfl) (fun h1034 => ?_) (fun h1034 => ?_)
            ·
              cases h1034; exact W.retK 1 100000 K1034 (by kernel_rfl)
            ·
              cases h1034; exact W.at 1 100000 [] [1] (by kernel_rfl) K1034

theorem cellarerlaw19_awake_con  {r : Bool} (h : cellarerlaw19_awake  = some r) : Con Go.Proofs.Tryd.prog 5 [] [] (cellarerlaw19_awake_res r) (cellarerlaw19_awake_out r) := by
  refine W.con (by kernel_rfl) ?_
  unfold cellarerlaw19_awake at h
  refine W.bind h fun a_1038 ha_1038 h => ?_
  refine W.call 0 100000 (by kernel_rfl) (pack_Right_con ha_1038) (by kernel_rfl) ?_
  refine W.cond 0 100000 h (by kernel_rfl) (fun h => ?_) (fun h => ?_)
  ·
    refine W.bind h fun a_1039 ha_1039 h => ?_
    refine W.call 0 100000 (by kernel_rfl) (pack_Reserved_con ha_1039) (by kernel_rfl) ?_
    refine W.yes 0 100000 (by kernel_rfl) ?_
    refine W.cond 0 100000 h (by kernel_rfl) (fun h => ?_) (fun h => ?_)
    ·
      refine W.yes 0 100000 (by kernel_rfl) ?_
      refine W.bind h fun a_1040 ha_1040 h => ?_
      refine W.call 0 100000 (by kernel_rfl) (pack_Act_con ha_1040) (by kernel_rfl) ?_
      refine W.yes 0 100000 (by kernel_rfl) ?_
      exact W.retT 0 100000 h (by kernel_rfl)
    ·
      refine W.no 0 100000 (by kernel_rfl) ?_
      refine W.no 0 100000 (by kernel_rfl) ?_
      exact W.retT 0 100000 h (by kernel_rfl)
  ·
    refine W.no 0 100000 (by kernel_rfl) ?_
    refine W.no 0 100000 (by kernel_rfl) ?_
    refine W.no 0 100000 (by kernel_rfl) ?_
    refine W.no 0 100000 (by kernel_rfl) ?_
    exact W.retT 0 100000 h (by kernel_rfl)

theorem cellarerlaw19_PackReserved_con {p_1044 : List UInt8} {r : Bool} (h : cellarerlaw19_PackReserved p_1044 = some r) : Con Go.Proofs.Tryd.prog 3 [AV.str p_1044] [] (cellarerlaw19_PackReserved_res r) (cellarerlaw19_PackReserved_out r) := by
  refine W.con (by kernel_rfl) ?_
  unfold cellarerlaw19_PackReserved at h
  refine W.cond 0 100000 h (by kernel_rfl) (fun h => ?_) (fun h => ?_)
  ·
    refine W.bind h fun a_1045 ha_1045 h => ?_
    refine W.call 0 100000 (by kernel_rfl) (cellarerlaw19_awake_con ha_1045) (by kernel_rfl) ?_
    exact W.retT 0 100000 h (by kernel_rfl)
  ·
    refine W.bind h fun a_1046 ha_1046 h => ?_
    refine W.call 0 100000 (by kernel_rfl) (pack_Reserved_con ha_1046) (by kernel_rfl) ?_
    refine W.bind h fun a_1047 ha_1047 h => ?_
    refine W.call 0 100000 (by kernel_rfl) (cellarerref19_Reserved_con ha_1047) (by kernel_rfl) ?_
    refine W.cond 0 100000 h (by kernel_rfl) (fun h => ?_) (fun h => ?_)
    ·
      refine W.bind h fun a_1048 ha_1048 h => ?_
      refine W.call 0 100000 (by kernel_rfl) (cellarerlaw19_awake_con ha_1048) (by kernel_rfl) ?_
      refine W.yes 0 100000 (by kernel_rfl) ?_
      exact W.retT 0 100000 h (by kernel_rfl)
    ·
      refine W.no 0 100000 (by kernel_rfl) ?_
      exact W.retT 0 100000 h (by kernel_rfl)

theorem cellarerlaw19_PackActs_con {a_1052 : Int} {a_1053 : List UInt8} {a_1054 : List UInt8} {a_1055 : List UInt8} {a_1056 : Int} {a_1057 : Int} {a_1058 : Int} {a_1059 : Int} {a_1060 : Bool} {a_1061 : Bool} {a_1062 : List (List UInt8 × List UInt8)} {a_1063 : List (List UInt8)} {r : Bool} (h : cellarerlaw19_PackActs a_1052 a_1053 a_1054 a_1055 a_1056 a_1057 a_1058 a_1059 a_1060 a_1061 a_1062 a_1063 = some r) : Con Go.Proofs.Tryd.prog 4 [AV.agg [AV.int IntKind.i64 a_1052, AV.str a_1053, AV.str a_1054, AV.str a_1055, AV.int IntKind.i64 a_1056, AV.int IntKind.i64 a_1057, AV.int IntKind.i64 a_1058, AV.int IntKind.i64 a_1059, AV.bool a_1060, AV.bool a_1061, AV.list (Ty.prod Ty.str Ty.str) a_1062 Bool.false, AV.list Ty.str a_1063 Bool.false]] [] (cellarerlaw19_PackActs_res r) (cellarerlaw19_PackActs_out r) := by
  refine W.con (by kernel_rfl) ?_
  unfold cellarerlaw19_PackActs at h
  refine W.bind h fun a_1064 ha_1064 h => ?_
  refine W.call 0 100000 (by kernel_rfl) (cellarerlaw19_FewActs_con ha_1064) (by kernel_rfl) ?_
  refine W.cond 0 100000 h (by kernel_rfl) (fun h => ?_) (fun h => ?_)
  ·
    refine W.bind h fun a_1065 ha_1065 h => ?_
    refine W.call 0 100000 (by kernel_rfl) (cellarerlaw19_awake_con ha_1065) (by kernel_rfl) ?_
    exact W.retT 0 100000 h (by kernel_rfl)
  ·
    refine W.bind h fun a_1066 ha_1066 h => ?_
    refine W.call 0 100000 (by kernel_rfl) (pack_Act_con ha_1066) (by kernel_rfl) ?_
    refine W.bind h fun a_1067 ha_1067 h => ?_
    refine W.call 0 100000 (by kernel_rfl) (cellarerref19_Act_con ha_1067) (by kernel_rfl) ?_
    refine W.cond 0 100000 h (by kernel_rfl) (fun h => ?_) (fun h => ?_)
    ·
      refine W.bind h fun a_1068 ha_1068 h => ?_
      refine W.call 0 100000 (by kernel_rfl) (cellarerlaw19_awake_con ha_1068) (by kernel_rfl) ?_
      refine W.yes 0 100000 (by kernel_rfl) ?_
      exact W.retT 0 100000 h (by kernel_rfl)
    ·
      refine W.no 0 100000 (by kernel_rfl) ?_
      exact W.retT 0 100000 h (by kernel_rfl)

end Go.Cellar
