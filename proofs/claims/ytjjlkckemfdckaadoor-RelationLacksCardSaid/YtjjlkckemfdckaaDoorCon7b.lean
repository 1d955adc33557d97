/- What the program's functions come to: printed by a program, checked by Lean. No condition. -/
import Derived.Test.YtjjlkckemfdckaaDoorCon7a
set_option maxRecDepth 4000
set_option linter.unusedVariables false
namespace Go.Cellar
open Go

theorem cellarerref07_Parse_con {s_651 : List UInt8} {r : List UInt8 × List UInt8 × List UInt8 × Bool} (h : cellarerref07_Parse s_651 = some r) : Con Go.Proofs.Tryd.prog 11 [AV.str s_651] [] (cellarerref07_Parse_res r) (cellarerref07_Parse_out r) := by
  refine W.con (by kernel_rfl) ?_
  unfold cellarerref07_Parse at h
  refine W.bind h fun a_652 ha_652 h => ?_
  refine W.call 0 100000 (by kernel_rfl) (cellarerref06_Split_con ha_652) (by kernel_rfl) ?_
  refine W.needT 0 100000 h (by kernel_rfl) (fun h => ?_)
  refine W.needT 0 100000 h (by kernel_rfl) (fun h => ?_)
  refine W.join (fun t_655 => Walk Go.Proofs.Tryd.prog 11 (Cfg.mk Mode.run (seqTodo Go.Proofs.Tryd.prog 11 3) (St.mk [AV.str s_651, jj, AV.ptr (0 : Nat) (0 : Nat), jj, jj, AV.ptr (1 : Nat) (0 : Nat), jj, jj, jj, jj, jj, jj, jj, jj, jj, jj, jj, jj, jj, jj, jj, jj, jj, jj, jj, jj, jj, jj, jj, jj, jj, jj, jj, jj, jj, jj, jj, jj, jj, jj, jj, jj, jj, jj, jj, jj, jj, jj, jj, jj, jj, jj, jj, jj, jj] [AO.box [AV.str [], AV.str [], AV.str []], AO.box [AV.str (List.getD a_652 (0 : Nat) []), AV.str (Prod.fst t_655), AV.str (Prod.snd t_655)]] (0 : Nat))) (cellarerref07_Parse_res r) (cellarerref07_Parse_out r)) h (fun t_655 h => ?_) (fun t659 h659 K659 => ?_)
  ·
    refine W.bind h fun a_656 ha_656 h => ?_
    refine W.call 0 100000 (by kernel_rfl) (cellarerref07_Right_con ha_656) (by kernel_rfl) ?_
    refine W.cond 0 100000 h (by kernel_rfl) (fun h => ?_) (fun h => ?_)
    ·
      refine W.yes 0 100000 (by kernel_rfl) ?_
      refine W.yes 0 100000 (by kernel_rfl) ?_
      refine W.yes 0 100000 (by kernel_rfl) ?_
      refine W.yes 0 100000 (by kernel_rfl) ?_
      refine W.yes 0 100000 (by kernel_rfl) ?_
      exact W.retT 0 100000 h (by kernel_rfl)
    ·
      refine W.no 0 100000 (by kernel_rfl) ?_
      refine W.bind h fun a_657 ha_657 h => ?_
      refine W.call 0 100000 (by kernel_rfl) (cellarerref07_Text_con ha_657) (by kernel_rfl) ?_
      refine W.no 0 100000 (by kernel_rfl) ?_
      refine W.no 0 100000 (by kernel_rfl) ?_
      refine W.no 0 100000 (by kernel_rfl) ?_
      refine W.cond 0 100000 h (by kernel_rfl) (fun h => ?_) (fun h => ?_)
      ·
        exact W.retT 0 100000 h (by kernel_rfl)
      ·
        exact W.retT 0 100000 h (by kernel_rfl)
  · refine W.next 0 5 (by kernel_rfl) ?_
    refine W.cond 1 100000 h659 (by kernel_rfl) (fun h659 => ?_) (fun h659 => ?_)
    ·
      refine W.yes 1 100000 (by kernel_rfl) ?_
      refine W.needT 1 100000 h659 (by kernel_rfl) (fun h659 => ?_)
      refine W.yes 1 100000 (by kernel_rfl) ?_
      refine W.needT 1 100000 h659 (by kernel_rfl) (fun h659 => ?_)
      refine W.yes 1 100000 (by kernel_rfl) ?_
      refine W.yes 1 100000 (by kernel_rfl) ?_
      refine W.yes 1 100000 (by kernel_rfl) ?_
      refine W.cond 1 100000 h659 (by kernel_rfl) (fun h659 => ?_) (fun h659 => ?_)
      ·
        refine W.yes 1 100000 (by kernel_rfl) ?_
        refine W.needT 1 100000 h659 (by kernel_rfl) (fun h659 => ?_)
        refine W.yes 1 100000 (by kernel_rfl) ?_
        refine W.needT 1 100000 h659 (by kernel_rfl) (fun h659 => ?_)
        refine W.yes 1 100000 (by kernel_rfl) ?_
        refine W.yes 1 100000 (by kernel_rfl) ?_
        refine W.yes 1 100000 (by kernel_rfl) ?_
        refine W.cond 1 100000 h659 (by kernel_rfl) (fun h659 => ?_) (fun h659 => ?_)
        ·
          refine W.needT 1 100000 h659 (by kernel_rfl) (fun h659 => ?_)
          refine W.needT 1 100000 h659 (by kernel_rfl) (fun h659 => ?_)
          refine W.needT 1 100000 h659 (by kernel_rfl) (fun h659 => ?_)
          refine W.needT 1 100000 h659 (by kernel_rfl) (fun h659 => ?_)
          refine W.needT 1 100000 h659 (by kernel_rfl) (fun h659 => ?_)
          refine W.needT 1 100000 h659 (by kernel_rfl) (fun h659 => ?_)
          refine W.needT 1 100000 h659 (by kernel_rfl) (fun h659 => ?_)
          refine W.needT 1 100000 h659 (by kernel_rfl) (fun h659 => ?_)
          cases h659; exact W.at 1 100000 [] [0, 2, 5] (by kernel_rfl) K659
        ·
          cases h659; exact W.at 1 100000 [] [0, 2, 5] (by kernel_rfl) K659
      ·
        refine W.no 1 100000 (by kernel_rfl) ?_
        refine W.no 1 100000 (by kernel_rfl) ?_
        refine W.no 1 100000 (by kernel_rfl) ?_
        refine W.no 1 100000 (by kernel_rfl) ?_
        refine W.no 1 100000 (by kernel_rfl) ?_
        refine W.no 1 100000 (by kernel_rfl) ?_
        cases h659; exact W.at 1 100000 [] [0, 2, 5] (by kernel_rfl) K659
    ·
      refine W.no 1 100000 (by kernel_rfl) ?_
      refine W.no 1 100000 (by kernel_rfl) ?_
      refine W.no 1 100000 (by kernel_rfl) ?_
      refine W.no 1 100000 (by kernel_rfl) ?_
      refine W.no 1 100000 (by kernel_rfl) ?_
      refine W.no 1 100000 (by kernel_rfl) ?_
      refine W.no 1 100000 (by kernel_rfl) ?_
      refine W.no 1 100000 (by kernel_rfl) ?_
      refine W.no 1 100000 (by kernel_rfl) ?_
      refine W.no 1 100000 (by kernel_rfl) ?_
      refine W.no 1 100000 (by kernel_rfl) ?_
      refine W.no 1 100000 (by kernel_rfl) ?_
      cases h659; exact W.at 1 100000 [] [0, 2, 5] (by kernel_rfl) K659

theorem cellarerlaw07_is_con {e_666 : Int} {ok_667 : Bool} {r : Bool} (h : cellarerlaw07_is e_666 ok_667 = some r) : Con Go.Proofs.Tryd.prog 12 [AV.int IntKind.i64 e_666, AV.bool ok_667] [] (cellarerlaw07_is_res r) (cellarerlaw07_is_out r) := by
  refine W.con (by kernel_rfl) ?_
  unfold cellarerlaw07_is at h
  refine W.cond 0 100000 h (by kernel_rfl) (fun h => ?_) (fun h => ?_)
  ·
    exact W.retT 0 100000 h (by kernel_rfl)
  ·
    exact W.retT 0 100000 h (by kernel_rfl)

theorem api_Rel__con {l_672 : List (List UInt8 × List UInt8 × List UInt8)} {between_673 : List UInt8} {r : List UInt8 × Int} (h : api_Rel_ l_672 between_673 = some r) : Con Go.Proofs.Tryd.prog 48 [AV.list (Ty.prod Ty.str (Ty.prod Ty.str Ty.str)) l_672 Bool.false, AV.func (Go.Fn.func (49 : Nat)) [] [], AV.str between_673] [] (api_Rel__res r) (api_Rel__out r) := by
  refine W.con (by kernel_rfl) ?_
  unfold api_Rel_ at h
  refine W.cond 0 100000 h (by kernel_rfl) (fun h => ?_) (fun h => ?_)
  ·
    exact W.retT 0 100000 h (by kernel_rfl)
  ·
    refine W.at 0 100000 [Co.own 8 (Ty.str)] [1, 2, 8, 16, 17, 18] (c' := (fun (s_695 : Int × List (List UInt8)) => (Cfg.mk Mode.run (headTodo Go.Proofs.Tryd.prog 48 0) (St.mk [jj, AV.func (Go.Fn.func (49 : Nat)) [] [], AV.str between_673, jj, jj, jj, jj, jj, AV.view (0 : Nat) (0 : Nat) Option.none, jj, jj, jj, jj, jj, jj, jj, AV.list (Ty.prod Ty.str (Ty.prod Ty.str Ty.str)) l_672 Bool.false, AV.int IntKind.i64 (↑(List.length l_672) : Int), AV.int IntKind.i64 (Prod.fst s_695), jj, jj, jj, jj, jj, jj, jj, jj, jj, jj, jj, jj, jj, jj, jj, jj, jj, jj, jj, jj] [AO.row Ty.str (Prod.snd s_695)] (0 : Nat)))) ((0 : Int), [])) (by kernel_rfl) ?_
    refine W.loop (fun (s_695 : Int × List (List UInt8)) => (Cfg.mk Mode.run (headTodo Go.Proofs.Tryd.prog 48 0) (St.mk [jj, AV.func (Go.Fn.func (49 : Nat)) [] [], AV.str between_673, jj, jj, jj, jj, jj, AV.view (0 : Nat) (0 : Nat) Option.none, jj, jj, jj, jj, jj, jj, jj, AV.list (Ty.prod Ty.str (Ty.prod Ty.str Ty.str)) l_672 Bool.false, AV.int IntKind.i64 (↑(List.length l_672) : Int), AV.int IntKind.i64 (Prod.fst s_695), jj, jj, jj, jj, jj, jj, jj, jj, jj, jj, jj, jj, jj, jj, jj, jj, jj, jj, jj, jj] [AO.row Ty.str (Prod.snd s_695)] (0 : Nat)))) (fun t => (Sum.elim (fun t_686 => r = ([], t_686)) (fun t_688 => Walk Go.Proofs.Tryd.prog 48 (Cfg.mk Mode.run ((headTodo Go.Proofs.Tryd.prog 48 0).drop 3) (St.mk [jj, jj, AV.str between_673, jj, jj, jj, jj, jj, AV.view (0 : Nat) (0 : Nat) Option.none, jj, jj, jj, jj, jj, jj, jj, jj, jj, jj, jj, jj, jj, jj, jj, jj, jj, jj, jj, jj, jj, jj, jj, jj, jj, jj, jj, jj, jj, jj] [AO.row Ty.str t_688] (0 : Nat))) (api_Rel__res r) (api_Rel__out r))) t) h (fun t h => ?_) (fun s_695 x691 h691 K691 => ?_)
    ·
      rcases t with t_686 | t_688
      · replace h := W.inl (h)
        refine W.elimL (?_)
        exact (Option.some.inj h).symm
      · replace h := W.inr (h)
        refine W.elimR (?_)
        refine W.bind h fun a_689 ha_689 h => ?_
        refine W.call 0 100000 (by kernel_rfl) (strings_Join_con ha_689) (by kernel_rfl) ?_
        exact W.retT 0 100000 h (by kernel_rfl)
    · unfold api_Rel__b0 at h691
      refine W.cond 2 100000 h691 (by kernel_rfl) (fun h691 => ?_) (fun h691 => ?_)
      ·
        refine W.needT 2 100000 h691 (by kernel_rfl) (fun h691 => ?_)
        refine W.bind h691 fun a_684 ha_684 h691 => ?_
        refine W.call 2 100000 (by kernel_rfl) (relation_right_con ha_684) (by kernel_rfl) ?_
        refine W.cond 2 100000 h691 (by kernel_rfl) (fun h691 => ?_) (fun h691 => ?_)
        ·
          cases h691; exact W.retK 2 100000 K691 (by kernel_rfl)
        ·
          refine W.needT 2 100000 h691 (by kernel_rfl) (fun h691 => ?_)
          cases h691; exact W.at 2 100000 [Co.own 8 (Ty.str)] [1, 2, 8, 16, 17, 18] (by kernel_rfl) K691
      ·
        cases h691; exact W.at 2 100000 [] [2, 8] (by kernel_rfl) K691

theorem relation_group_con {l_671 : List (List UInt8 × List UInt8 × List UInt8)} {r : List UInt8 × Int} (h : relation_group l_671 = some r) : Con Go.Proofs.Tryd.prog 39 [AV.list (Ty.prod Ty.str (Ty.prod Ty.str Ty.str)) l_671 Bool.false] [] (relation_group_res r) (relation_group_out r) := by
  refine W.con (by kernel_rfl) ?_
  unfold relation_group at h
  refine W.cond 0 100000 h (by kernel_rfl) (fun h => ?_) (fun h => ?_)
  ·
    exact W.retT 0 100000 h (by kernel_rfl)
  ·
    refine W.bind h fun a_696 ha_696 h => ?_
    refine W.call 0 100000 (by kernel_rfl) (api_Rel__con ha_696) (by kernel_rfl) ?_
    exact W.retT 0 100000 h (by kernel_rfl)

theorem cellarerref07_Ones_con {l_701 : List (List UInt8 × List UInt8 × List UInt8)} {r : List (List (List UInt8 × List UInt8 × List UInt8))} (h : cellarerref07_Ones l_701 = some r) : Con Go.Proofs.Tryd.prog 50 [AV.list (Ty.prod Ty.str (Ty.prod Ty.str Ty.str)) l_701 Bool.false] [] (cellarerref07_Ones_res r) (cellarerref07_Ones_out r) := by
  refine W.con (by kernel_rfl) ?_
  unfold cellarerref07_Ones at h
  refine W.at 0 100000 [Co.own 3 (Ty.list (Ty.prod Ty.str (Ty.prod Ty.str Ty.str)))] [0, 3, 4] (c' := (fun (s_713 : Int × List (List (List UInt8 × List UInt8 × List UInt8))) => (Cfg.mk Mode.run (headTodo Go.Proofs.Tryd.prog 50 0) (St.mk [AV.list (Ty.prod Ty.str (Ty.prod Ty.str Ty.str)) l_701 Bool.false, jj, jj, AV.view (0 : Nat) (0 : Nat) Option.none, AV.int IntKind.i64 (Prod.fst s_713), jj, jj, jj, jj, jj, jj, jj, jj, jj, jj, jj, jj, jj, jj, jj] [AO.row (Ty.list (Ty.prod Ty.str (Ty.prod Ty.str Ty.str))) (Prod.snd s_713)] (0 : Nat)))) ((0 : Int), [])) (by kernel_rfl) ?_
  refine W.loop (fun (s_713 : Int × List (List (List UInt8 × List UInt8 × List UInt8))) => (Cfg.mk Mode.run (headTodo Go.Proofs.Tryd.prog 50 0) (St.mk [AV.list (Ty.prod Ty.str (Ty.prod Ty.str Ty.str)) l_701 Bool.false, jj, jj, AV.view (0 : Nat) (0 : Nat) Option.none, AV.int IntKind.i64 (Prod.fst s_713), jj, jj, jj, jj, jj, jj, jj, jj, jj, jj, jj, jj, jj, jj, jj] [AO.row (Ty.list (Ty.prod Ty.str (Ty.prod Ty.str Ty.str))) (Prod.snd s_713)] (0 : Nat)))) (fun t_708 => Walk Go.Proofs.Tryd.prog 50 (Cfg.mk Mode.run ((headTodo Go.Proofs.Tryd.prog 50 0).drop 3) (St.mk [jj, jj, jj, AV.view (0 : Nat) (0 : Nat) Option.none, jj, jj, jj, jj, jj, jj, jj, jj, jj, jj, jj, jj, jj, jj, jj, jj] [AO.row (Ty.list (Ty.prod Ty.str (Ty.prod Ty.str Ty.str))) t_708] (0 : Nat))) (cellarerref07_Ones_res r) (cellarerref07_Ones_out r)) h (fun t_708 h => ?_) (fun s_713 x710 h710 K710 => ?_)
  ·
    exact W.retT 0 100000 h (by kernel_rfl)
  · unfold cellarerref07_Ones_b0 at h710
    refine W.cond 2 100000 h710 (by kernel_rfl) (fun h710 => ?_) (fun h710 => ?_)
    ·
      refine W.needT 2 100000 h710 (by kernel_rfl) (fun h710 => ?_)
      refine W.needT 2 100000 h710 (by kernel_rfl) (fun h710 => ?_)
      cases h710; exact W.at 2 100000 [Co.own 3 (Ty.list (Ty.prod Ty.str (Ty.prod Ty.str Ty.str)))] [0, 3, 4] (by kernel_rfl) K710
    ·
      cases h710; exact W.at 2 100000 [] [3] (by kernel_rfl) K710

theorem strings_Count_con {s_736 : List UInt8} {substr_737 : List UInt8} {r : Int} (h : strings_Count s_736 substr_737 = some r) : Con Go.Proofs.Tryd.prog 86 [AV.str s_736, AV.str substr_737] [] (strings_Count_res r) (strings_Count_out r) := by
  refine W.con (by kernel_rfl) ?_
  unfold strings_Count at h
  refine W.cond 0 100000 h (by kernel_rfl) (fun h => ?_) (fun h => ?_)
  ·
    exact nomatch h
  ·
    refine W.cond 0 100000 h (by kernel_rfl) (fun h => ?_) (fun h => ?_)
    ·
      refine W.needT 0 100000 h (by kernel_rfl) (fun h => ?_)
      exact W.retT 0 100000 h (by kernel_rfl)
    ·
      refine W.at 0 100000 [] [0, 1, 5] (c' := (fun (s_748 : List UInt8 × Int) => (Cfg.mk Mode.run (headTodo Go.Proofs.Tryd.prog 86 0) (St.mk [AV.str (Prod.fst s_748), AV.str substr_737, jj, jj, jj, AV.int IntKind.i64 (Prod.snd s_748), jj, jj, jj, jj, jj, jj, jj, jj, jj, jj, jj, jj, jj, jj, jj, jj, jj, jj, jj, jj, jj, jj, jj, jj, jj, jj, jj, jj] [] (0 : Nat)))) (s_736, (0 : Int))) (by kernel_rfl) ?_
      refine W.loop (fun (s_748 : List UInt8 × Int) => (Cfg.mk Mode.run (headTodo Go.Proofs.Tryd.prog 86 0) (St.mk [AV.str (Prod.fst s_748), AV.str substr_737, jj, jj, jj, AV.int IntKind.i64 (Prod.snd s_748), jj, jj, jj, jj, jj, jj, jj, jj, jj, jj, jj, jj, jj, jj, jj, jj, jj, jj, jj, jj, jj, jj, jj, jj, jj, jj, jj, jj] [] (0 : Nat)))) (fun t_743 => r = (t_743)) h (fun t_743 h => ?_) (fun s_748 x745 h745 K745 => ?_)
      ·
        exact (Option.some.inj h).symm
      · unfold strings_Count_b0 at h745
        refine W.bind h745 fun a_741 ha_741 h745 => ?_
        refine W.call 1 100000 (by kernel_rfl) (strings_Index_con ha_741) (by kernel_rfl) ?_
        refine W.cond 1 100000 h745 (by kernel_rfl) (fun h745 => ?_) (fun h745 => ?_)
        ·
          cases h745; exact W.retK 1 100000 K745 (by kernel_rfl)
        ·
          refine W.needT 1 100000 h745 (by kernel_rfl) (fun h745 => ?_)
          cases h745; exact W.at 1 100000 [] [0, 1, 5] (by kernel_rfl) K745

theorem strings_genSplit_con {s_730 : List UInt8} {sep_731 : List UInt8} {sepSave_732 : Int} {n_733 : Int} {r : List (List UInt8)} (h : strings_genSplit s_730 sep_731 sepSave_732 n_733 = some r) : Con Go.Proofs.Tryd.prog 74 [AV.str s_730, AV.str sep_731, AV.int IntKind.i64 sepSave_732, AV.int IntKind.i64 n_733] [] (strings_genSplit_res r) (strings_genSplit_out r) := by
  refine W.con (by kernel_rfl) ?_
  unfold strings_genSplit at h
  refine W.cond 0 100000 h (by kernel_rfl) (fun h => ?_) (fun h => ?_)
  ·
    exact W.retT 0 100000 h (by kernel_rfl)
  ·
    refine W.cond 0 100000 h (by kernel_rfl) (fun h => ?_) (fun h => ?_)
    ·
      exact nomatch h
    ·
      refine W.join (fun t_751 => Walk Go.Proofs.Tryd.prog 74 (Cfg.mk Mode.run (seqTodo Go.Proofs.Tryd.prog 74 7) (St.mk [AV.str s_730, AV.str sep_731, AV.int IntKind.i64 sepSave_732, AV.int IntKind.i64 t_751, jj, jj, jj, jj, jj, jj, jj, jj, jj, jj, jj, jj, jj, jj, jj, jj, jj, jj, jj, jj, jj, jj, jj, jj, jj, jj, jj, jj, jj, jj, jj, jj, jj, jj, jj, jj, jj, jj, jj, jj, jj, jj, jj, jj, jj, jj, jj, jj, jj, jj, jj, jj, jj, jj, jj, jj, jj, jj, jj, jj, jj, jj] [] (0 : Nat))) (strings_genSplit_res r) (strings_genSplit_out r)) h (fun t_751 h => ?_) (fun t765 h765 K765 => ?_)
      ·
        refine W.needT 0 100000 h (by kernel_rfl) (fun h => ?_)
        refine W.at 0 100000 [] [0, 1, 2, 3, 9, 10] (c' := (fun (s_768 : List UInt8 × Int × List (List UInt8)) => (Cfg.mk Mode.run (headTodo Go.Proofs.Tryd.prog 74 0) (St.mk [AV.str (Prod.fst s_768), AV.str sep_731, AV.int IntKind.i64 sepSave_732, AV.int IntKind.i64 (IntKind.wrap IntKind.i64 ((if IntKind.wrap IntKind.i64 ((↑(List.length s_730) : Int) + (1 : Int)) < t_751 then IntKind.wrap IntKind.i64 ((↑(List.length s_730) : Int) + (1 : Int)) else t_751) - (1 : Int))), jj, jj, jj, jj, jj, AV.view (0 : Nat) (0 : Nat) Option.none, AV.int IntKind.i64 (Prod.fst (Prod.snd s_768)), jj, jj, jj, jj, jj, jj, jj, jj, jj, jj, jj, jj, jj, jj, jj, jj, jj, jj, jj, jj, jj, jj, jj, jj, jj, jj, jj, jj, jj, jj, jj, jj, jj, jj, jj, jj, jj, jj, jj, jj, jj, jj, jj, jj, jj, jj, jj, jj, jj, jj, jj, jj, jj, jj, jj] [AO.row Ty.str (Prod.snd (Prod.snd s_768))] (0 : Nat)))) (s_730, (0 : Int), List.replicate (Int.toNat (if IntKind.wrap IntKind.i64 ((↑(List.length s_730) : Int) + (1 : Int)) < t_751 then IntKind.wrap IntKind.i64 ((↑(List.length s_730) : Int) + (1 : Int)) else t_751)) [])) (by kernel_rfl) ?_
        refine W.loop (fun (s_768 : List UInt8 × Int × List (List UInt8)) => (Cfg.mk Mode.run (headTodo Go.Proofs.Tryd.prog 74 0) (St.mk [AV.str (Prod.fst s_768), AV.str sep_731, AV.int IntKind.i64 sepSave_732, AV.int IntKind.i64 (IntKind.wrap IntKind.i64 ((if IntKind.wrap IntKind.i64 ((↑(List.length s_730) : Int) + (1 : Int)) < t_751 then IntKind.wrap IntKind.i64 ((↑(List.length s_730) : Int) + (1 : Int)) else t_751) - (1 : Int))), jj, jj, jj, jj, jj, AV.view (0 : Nat) (0 : Nat) Option.none, AV.int IntKind.i64 (Prod.fst (Prod.snd s_768)), jj, jj, jj, jj, jj, jj, jj, jj, jj, jj, jj, jj, jj, jj, jj, jj, jj, jj, jj, jj, jj, jj, jj, jj, jj, jj, jj, jj, jj, jj, jj, jj, jj, jj, jj, jj, jj, jj, jj, jj, jj, jj, jj, jj, jj, jj, jj, jj, jj, jj, jj, jj, jj, jj, jj] [AO.row Ty.str (Prod.snd (Prod.snd s_768))] (0 : Nat)))) (fun t_762 => Walk Go.Proofs.Tryd.prog 74 (Cfg.mk Mode.run ((headTodo Go.Proofs.Tryd.prog 74 0).drop 3) (St.mk [AV.str (Prod.fst t_762), jj, jj, jj, jj, jj, jj, jj, jj, AV.view (0 : Nat) (0 : Nat) Option.none, AV.int IntKind.i64 (Prod.fst (Prod.snd t_762)), jj, jj, jj, jj, jj, jj, jj, jj, jj, jj, jj, jj, jj, jj, jj, jj, jj, jj, jj, jj, jj, jj, jj, jj, jj, jj, jj, jj, jj, jj, jj, jj, jj, jj, jj, jj, jj, jj, jj, jj, jj, jj, jj, jj, jj, jj, jj, jj, jj, jj, jj, jj, jj, jj, jj] [AO.row Ty.str (Prod.snd (Prod.snd t_762))] (0 : Nat))) (strings_genSplit_res r) (strings_genSplit_out r)) h (fun t_762 h => ?_) (fun s_768 x764 h764 K764 => ?_)
        ·
          refine W.needT 0 100000 h (by kernel_rfl) (fun h => ?_)
          refine W.needT 0 100000 h (by kernel_rfl) (fun h => ?_)
          refine W.needT 0 100000 h (by kernel_rfl) (fun h => ?_)
          exact W.retT 0 100000 h (by kernel_rfl)
        · unfold strings_genSplit_b0 at h764
          refine W.cond 2 100000 h764 (by kernel_rfl) (fun h764 => ?_) (fun h764 => ?_)
          ·
            refine W.bind h764 fun a_758 ha_758 h764 => ?_
            refine W.call 2 100000 (by kernel_rfl) (strings_Index_con ha_758) (by kernel_rfl) ?_
            refine W.cond 2 100000 h764 (by kernel_rfl) (fun h764 => ?_) (fun h764 => ?_)
            ·
              cases h764; exact W.at 2 100000 [] [0, 9, 10] (by kernel_rfl) K764
            ·
              refine W.needT 2 100000 h764 (by kernel_rfl) (fun h764 => ?_)
              refine W.needT 2 100000 h764 (by kernel_rfl) (fun h764 => ?_)
              refine W.needT 2 100000 h764 (by kernel_rfl) (fun h764 => ?_)
              refine W.needT 2 100000 h764 (by kernel_rfl) (fun h764 => ?_)
              cases h764; exact W.at 2 100000 [] [0, 1, 2, 3, 9, 10] (by kernel_rfl) K764
          ·
            cases h764; exact W.at 2 100000 [] [0, 9, 10] (by kernel_rfl) K764
      · refine W.next 0 2 (by kernel_rfl) ?_
        refine W.cond 1 100000 h765 (by kernel_rfl) (fun h765 => ?_) (fun h765 => ?_)
        ·
          refine W.bind h765 fun a_749 ha_749 h765 => ?_
          refine W.call 1 100000 (by kernel_rfl) (strings_Count_con ha_749) (by kernel_rfl) ?_
          cases h765; exact W.at 1 100000 [] [0, 1, 2, 3] (by kernel_rfl) K765
        ·
          cases h765; exact W.at 1 100000 [] [0, 1, 2, 3] (by kernel_rfl) K765

theorem strings_Split_con {s_718 : List UInt8} {sep_719 : List UInt8} {r : List (List UInt8)} (h : strings_Split s_718 sep_719 = some r) : Con Go.Proofs.Tryd.prog 62 [AV.str s_718, AV.str sep_719] [] (strings_Split_res r) (strings_Split_out r) := by
  refine W.con (by kernel_rfl) ?_
  unfold strings_Split at h
  refine W.bind h fun a_769 ha_769 h => ?_
  refine W.call 0 100000 (by kernel_rfl) (strings_genSplit_con ha_769) (by kernel_rfl) ?_
  exact W.retT 0 100000 h (by kernel_rfl)

theorem api_Rel__47_con {s_716 : List UInt8} {between_717 : List UInt8} {r : Int × List (List UInt8 × List UInt8 × List UInt8)} (h : api_Rel__47 s_716 between_717 = some r) : Con Go.Proofs.Tryd.prog 47 [AV.str s_716, AV.func (Go.Fn.func (10 : Nat)) [] [], AV.str between_717] [] (api_Rel__47_res r) (api_Rel__47_out r) := by
  refine W.con (by kernel_rfl) ?_
  unfold api_Rel__47 at h
  refine W.cond 0 100000 h (by kernel_rfl) (fun h => ?_) (fun h => ?_)
  ·
    exact W.retT 0 100000 h (by kernel_rfl)
  ·
    refine W.bind h fun a_772 ha_772 h => ?_
    refine W.call 0 100000 (by kernel_rfl) (strings_Split_con ha_772) (by kernel_rfl) ?_
    refine W.at 0 100000 [Co.own 8 (Ty.prod Ty.str (Ty.prod Ty.str Ty.str))] [1, 8, 17, 18, 19] (c' := (fun (s_796 : Int × List (List UInt8 × List UInt8 × List UInt8)) => (Cfg.mk Mode.run (headTodo Go.Proofs.Tryd.prog 47 0) (St.mk [jj, AV.func (Go.Fn.func (10 : Nat)) [] [], jj, jj, jj, jj, jj, jj, AV.view (0 : Nat) (0 : Nat) Option.none, jj, jj, jj, jj, jj, jj, jj, jj, AV.view (1 : Nat) (0 : Nat) Option.none, AV.int IntKind.i64 ((↑(List.length a_772) : Int) - (↑(0 : Nat) : Int)), AV.int IntKind.i64 (Prod.fst s_796), jj, jj, jj, jj, jj, jj, jj, jj, jj, jj, jj, jj, jj, jj, jj, jj, jj, jj, jj, jj, jj, jj] [AO.row (Ty.prod Ty.str (Ty.prod Ty.str Ty.str)) (Prod.snd s_796), AO.row Ty.str a_772] (0 : Nat)))) ((0 : Int), [])) (by kernel_rfl) ?_
    refine W.loop (fun (s_796 : Int × List (List UInt8 × List UInt8 × List UInt8)) => (Cfg.mk Mode.run (headTodo Go.Proofs.Tryd.prog 47 0) (St.mk [jj, AV.func (Go.Fn.func (10 : Nat)) [] [], jj, jj, jj, jj, jj, jj, AV.view (0 : Nat) (0 : Nat) Option.none, jj, jj, jj, jj, jj, jj, jj, jj, AV.view (1 : Nat) (0 : Nat) Option.none, AV.int IntKind.i64 ((↑(List.length a_772) : Int) - (↑(0 : Nat) : Int)), AV.int IntKind.i64 (Prod.fst s_796), jj, jj, jj, jj, jj, jj, jj, jj, jj, jj, jj, jj, jj, jj, jj, jj, jj, jj, jj, jj, jj, jj] [AO.row (Ty.prod Ty.str (Ty.prod Ty.str Ty.str)) (Prod.snd s_796), AO.row Ty.str a_772] (0 : Nat)))) (fun t => (Sum.elim (fun t_788 => r = ((2 : Int), [])) (fun t_790 => Walk Go.Proofs.Tryd.prog 47 (Cfg.mk Mode.run ((headTodo Go.Proofs.Tryd.prog 47 0).drop 3) (St.mk [jj, jj, jj, jj, jj, jj, jj, jj, AV.view (0 : Nat) (0 : Nat) Option.none, jj, jj, jj, jj, jj, jj, jj, jj, jj, jj, jj, jj, jj, jj, jj, jj, jj, jj, jj, jj, jj, jj, jj, jj, jj, jj, jj, jj, jj, jj, jj, jj, jj] [AO.row (Ty.prod Ty.str (Ty.prod Ty.str Ty.str)) t_790] (0 : Nat))) (api_Rel__47_res r) (api_Rel__47_out r))) t) h (fun t h => ?_) (fun s_796 x792 h792 K792 => ?_)
    ·
      rcases t with t_788 | t_790
      · replace h := W.inl (h)
        refine W.elimL (?_)
        exact (Option.some.inj h).symm
      · replace h := W.inr (h)
        refine W.elimR (?_)
        exact W.retT 0 100000 h (by kernel_rfl)
    · unfold api_Rel__47_b0 at h792
      refine W.cond 2 100000 h792 (by kernel_rfl) (fun h792 => ?_) (fun h792 => ?_)
      ·
        refine W.needT 2 100000 h792 (by kernel_rfl) (fun h792 => ?_)
        refine W.needT 2 100000 h792 (by kernel_rfl) (fun h792 => ?_)
        refine W.bind h792 fun a_784 ha_784 h792 => ?_
        refine W.call 2 100000 (by kernel_rfl) (relation_Parse_con ha_784) (by kernel_rfl) ?_
        refine W.join (fun t => (Sum.elim (fun t_785 => r = ((2 : Int), [])) (fun t_786 => Walk Go.Proofs.Tryd.prog 47 (Cfg.mk Mode.run (seqTodo Go.Proofs.Tryd.prog 47 12) (St.mk [jj, AV.func (Go.Fn.func (10 : Nat)) [] [], jj, jj, jj, jj, jj, jj, AV.view (0 : Nat) (0 : Nat) Option.none, jj, jj, AV.ptr (1 : Nat) (0 : Nat), jj, jj, jj, jj, jj, AV.view (2 : Nat) (0 : Nat) Option.none, AV.int IntKind.i64 ((↑(List.length a_772) : Int) - (↑(0 : Nat) : Int)), AV.int IntKind.i64 (Prod.fst s_796), jj, jj, jj, jj, jj, jj, jj, jj, jj, jj, jj, jj, jj, jj, jj, jj, jj, jj, jj, jj, jj, jj] [AO.row (Ty.prod Ty.str (Ty.prod Ty.str Ty.str)) (Prod.snd s_796), AO.box [AV.str (Prod.fst a_784), AV.str (Prod.fst (Prod.snd a_784)), AV.str (Prod.fst (Prod.snd (Prod.snd a_784)))], AO.row Ty.str a_772] (0 : Nat))) (api_Rel__47_res r) (api_Rel__47_out r))) t) h792 (fun t h792 => ?_) (fun t788 h788 K788 => ?_)
        ·
          rcases t with t_785 | t_786
          · replace h792 := W.inl (h792)
            refine W.elimL (?_)
            cases h792; exact K792
          · replace h792 := W.inr (h792)
            refine W.elimR (?_)
            refine W.needT 2 100000 h792 (by kernel_rfl) (fun h792 => ?_)
            cases h792; exact W.at 2 100000 [Co.own 8 (Ty.prod Ty.str (Ty.prod Ty.str Ty.str))] [1, 8, 17, 18, 19] (by kernel_rfl) K792
        · refine W.next 2 8 (by kernel_rfl) ?_
          refine W.cond 6 100000 h788 (by kernel_rfl) (fun h788 => ?_) (fun h788 => ?_)
          ·
            refine W.yes 6 100000 (by kernel_rfl) ?_
            refine W.yes 6 100000 (by kernel_rfl) ?_
            refine W.yes 6 100000 (by kernel_rfl) ?_
            refine W.yes 6 100000 (by kernel_rfl) ?_
            cases h788; exact W.retK 6 100000 K788 (by kernel_rfl)
          ·
            refine W.no 6 100000 (by kernel_rfl) ?_
            refine W.no 6 100000 (by kernel_rfl) ?_
            refine W.no 6 100000 (by kernel_rfl) ?_
            refine W.cond 6 100000 h788 (by kernel_rfl) (fun h788 => ?_) (fun h788 => ?_)
            ·
              cases h788; exact W.retK 6 100000 K788 (by kernel_rfl)
            ·
              cases h788; exact W.at 6 100000 [] [1, 8, 11, 17, 18, 19] (by kernel_rfl) K788
      ·
        cases h792; exact W.at 2 100000 [] [8] (by kernel_rfl) K792

theorem relation_some_con {s_715 : List UInt8} {r : Int × List (List UInt8 × List UInt8 × List UInt8)} (h : relation_some s_715 = some r) : Con Go.Proofs.Tryd.prog 42 [AV.str s_715] [] (relation_some_res r) (relation_some_out r) := by
  refine W.con (by kernel_rfl) ?_
  unfold relation_some at h
  refine W.cond 0 100000 h (by kernel_rfl) (fun h => ?_) (fun h => ?_)
  ·
    exact W.retT 0 100000 h (by kernel_rfl)
  ·
    refine W.bind h fun a_797 ha_797 h => ?_
    refine W.call 0 100000 (by kernel_rfl) (api_Rel__47_con ha_797) (by kernel_rfl) ?_
    exact W.retT 0 100000 h (by kernel_rfl)

theorem api_Rel__38_con {l_809 : List (List (List UInt8 × List UInt8 × List UInt8))} {between_810 : List UInt8} {r : List UInt8 × Int} (h : api_Rel__38 l_809 between_810 = some r) : Con Go.Proofs.Tryd.prog 38 [AV.list (Ty.list (Ty.prod Ty.str (Ty.prod Ty.str Ty.str))) l_809 Bool.false, AV.func (Go.Fn.func (39 : Nat)) [] [], AV.str between_810] [] (api_Rel__38_res r) (api_Rel__38_out r) := by
  refine W.con (by kernel_rfl) ?_
  unfold api_Rel__38 at h
  refine W.cond 0 100000 h (by kernel_rfl) (fun h => ?_) (fun h => ?_)
  ·
    exact W.retT 0 100000 h (by kernel_rfl)
  ·
    refine W.at 0 100000 [Co.own 8 (Ty.str)] [1, 2, 8, 16, 17, 18] (c' := (fun (s_832 : Int × List (List UInt8)) => (Cfg.mk Mode.run (headTodo Go.Proofs.Tryd.prog 38 0) (St.mk [jj, AV.func (Go.Fn.func (39 : Nat)) [] [], AV.str between_810, jj, jj, jj, jj, jj, AV.view (0 : Nat) (0 : Nat) Option.none, jj, jj, jj, jj, jj, jj, jj, AV.list (Ty.list (Ty.prod Ty.str (Ty.prod Ty.str Ty.str))) l_809 Bool.false, AV.int IntKind.i64 (↑(List.length l_809) : Int), AV.int IntKind.i64 (Prod.fst s_832), jj, jj, jj, jj, jj, jj, jj, jj, jj, jj, jj, jj, jj, jj, jj, jj, jj, jj, jj, jj] [AO.row Ty.str (Prod.snd s_832)] (0 : Nat)))) ((0 : Int), [])) (by kernel_rfl) ?_
    refine W.loop (fun (s_832 : Int × List (List UInt8)) => (Cfg.mk Mode.run (headTodo Go.Proofs.Tryd.prog 38 0) (St.mk [jj, AV.func (Go.Fn.func (39 : Nat)) [] [], AV.str between_810, jj, jj, jj, jj, jj, AV.view (0 : Nat) (0 : Nat) Option.none, jj, jj, jj, jj, jj, jj, jj, AV.list (Ty.list (Ty.prod Ty.str (Ty.prod Ty.str Ty.str))) l_809 Bool.false, AV.int IntKind.i64 (↑(List.length l_809) : Int), AV.int IntKind.i64 (Prod.fst s_832), jj, jj, jj, jj, jj, jj, jj, jj, jj, jj, jj, jj, jj, jj, jj, jj, jj, jj, jj, jj] [AO.row Ty.str (Prod.snd s_832)] (0 : Nat)))) (fun t => (Sum.elim (fun t_823 => r = ([], t_823)) (fun t_825 => Walk Go.Proofs.Tryd.prog 38 (Cfg.mk Mode.run ((headTodo Go.Proofs.Tryd.prog 38 0).drop 3) (St.mk [jj, jj, AV.str between_810, jj, jj, jj, jj, jj, AV.view (0 : Nat) (0 : Nat) Option.none, jj, jj, jj, jj, jj, jj, jj, jj, jj, jj, jj, jj, jj, jj, jj, jj, jj, jj, jj, jj, jj, jj, jj, jj, jj, jj, jj, jj, jj, jj] [AO.row Ty.str t_825] (0 : Nat))) (api_Rel__38_res r) (api_Rel__38_out r))) t) h (fun t h => ?_) (fun s_832 x828 h828 K828 => ?_)
    ·
      rcases t with t_823 | t_825
      · replace h := W.inl (h)
        refine W.elimL (?_)
        exact (Option.some.inj h).symm
      · replace h := W.inr (h)
        refine W.elimR (?_)
        refine W.bind h fun a_826 ha_826 h => ?_
        refine W.call 0 100000 (by kernel_rfl) (strings_Join_con ha_826) (by kernel_rfl) ?_
        exact W.retT 0 100000 h (by kernel_rfl)
    · unfold api_Rel__38_b0 at h828
      refine W.cond 2 100000 h828 (by kernel_rfl) (fun h828 => ?_) (fun h828 => ?_)
      ·
        refine W.needT 2 100000 h828 (by kernel_rfl) (fun h828 => ?_)
        refine W.bind h828 fun a_821 ha_821 h828 => ?_
        refine W.call 2 100000 (by kernel_rfl) (relation_group_con ha_821) (by kernel_rfl) ?_
        refine W.cond 2 100000 h828 (by kernel_rfl) (fun h828 => ?_) (fun h828 => ?_)
        ·
          cases h828; exact W.retK 2 100000 K828 (by kernel_rfl)
        ·
          refine W.needT 2 100000 h828 (by kernel_rfl) (fun h828 => ?_)
          cases h828; exact W.at 2 100000 [Co.own 8 (Ty.str)] [1, 2, 8, 16, 17, 18] (by kernel_rfl) K828
      ·
        cases h828; exact W.at 2 100000 [] [2, 8] (by kernel_rfl) K828

theorem relation_All_con {l_802 : List (List (List UInt8 × List UInt8 × List UInt8))} {r : List UInt8 × Int} (h : relation_All l_802 = some r) : Con Go.Proofs.Tryd.prog 17 [AV.list (Ty.list (Ty.prod Ty.str (Ty.prod Ty.str Ty.str))) l_802 Bool.false] [] (relation_All_res r) (relation_All_out r) := by
  refine W.con (by kernel_rfl) ?_
  unfold relation_All at h
  refine W.at 0 100000 [] [0, 6, 7, 8] (c' := (fun (s_839 : Int) => (Cfg.mk Mode.run (headTodo Go.Proofs.Tryd.prog 17 0) (St.mk [AV.list (Ty.list (Ty.prod Ty.str (Ty.prod Ty.str Ty.str))) l_802 Bool.false, jj, jj, jj, jj, jj, AV.list (Ty.list (Ty.prod Ty.str (Ty.prod Ty.str Ty.str))) l_802 Bool.false, AV.int IntKind.i64 (↑(List.length l_802) : Int), AV.int IntKind.i64 s_839, jj, jj, jj, jj, jj, jj, jj, jj, jj, jj, jj] [] (0 : Nat)))) ((0 : Int))) (by kernel_rfl) ?_
  refine W.loop (fun (s_839 : Int) => (Cfg.mk Mode.run (headTodo Go.Proofs.Tryd.prog 17 0) (St.mk [AV.list (Ty.list (Ty.prod Ty.str (Ty.prod Ty.str Ty.str))) l_802 Bool.false, jj, jj, jj, jj, jj, AV.list (Ty.list (Ty.prod Ty.str (Ty.prod Ty.str Ty.str))) l_802 Bool.false, AV.int IntKind.i64 (↑(List.length l_802) : Int), AV.int IntKind.i64 s_839, jj, jj, jj, jj, jj, jj, jj, jj, jj, jj, jj] [] (0 : Nat)))) (fun t => (Sum.elim (fun t_807 => r = ([], (22 : Int))) (fun t_808 => Walk Go.Proofs.Tryd.prog 17 (Cfg.mk Mode.run ((headTodo Go.Proofs.Tryd.prog 17 0).drop 3) (St.mk [AV.list (Ty.list (Ty.prod Ty.str (Ty.prod Ty.str Ty.str))) l_802 Bool.false, jj, jj, jj, jj, jj, jj, jj, jj, jj, jj, jj, jj, jj, jj, jj, jj, jj, jj, jj] [] (0 : Nat))) (relation_All_res r) (relation_All_out r))) t) h (fun t h => ?_) (fun s_839 x835 h835 K835 => ?_)
  ·
    rcases t with t_807 | t_808
    · replace h := W.inl (h)
      refine W.elimL (?_)
      exact (Option.some.inj h).symm
    · replace h := W.inr (h)
      refine W.elimR (?_)
      refine W.bind h fun a_833 ha_833 h => ?_
      refine W.call 0 100000 (by kernel_rfl) (api_Rel__38_con ha_833) (by kernel_rfl) ?_
      exact W.retT 0 100000 h (by kernel_rfl)
  · unfold relation_All_b0 at h835
    refine W.cond 2 100000 h835 (by kernel_rfl) (fun h835 => ?_) (fun h835 => ?_)
    ·
      refine W.needT 2 100000 h835 (by kernel_rfl) (fun h835 => ?_)
      refine W.cond 2 100000 h835 (by kernel_rfl) (fun h835 => ?_) (fun h835 => ?_)
      ·
        cases h835; exact W.retK 2 100000 K835 (by kernel_rfl)
      ·
        cases h835; exact W.at 2 100000 [] [0, 6, 7, 8] (by kernel_rfl) K835
    ·
      cases h835; exact W.at 2 100000 [] [0] (by kernel_rfl) K835

theorem cellarerref07_All_con {l_841 : List (List (List UInt8 × List UInt8 × List UInt8))} {r : List UInt8 × Int} (h : cellarerref07_All l_841 = some r) : Con Go.Proofs.Tryd.prog 18 [AV.list (Ty.list (Ty.prod Ty.str (Ty.prod Ty.str Ty.str))) l_841 Bool.false] [] (cellarerref07_All_res r) (cellarerref07_All_out r) := by
  refine W.con (by kernel_rfl) ?_
  unfold cellarerref07_All at h
  refine W.at 0 100000 [] [0, 4] (c' := (fun (s_897 : Int) => (Cfg.mk Mode.run (headTodo Go.Proofs.Tryd.prog 18 0) (St.mk [AV.list (Ty.list (Ty.prod Ty.str (Ty.prod Ty.str Ty.str))) l_841 Bool.false, jj, jj, jj, AV.int IntKind.i64 s_897, jj, jj, jj, jj, jj, jj, jj, jj, jj, jj, jj, jj, jj, jj, jj, jj, jj, jj, jj, jj, jj, jj, jj, jj, jj, jj, jj, jj, jj, jj, jj, jj, jj, jj, jj, jj, jj, jj, jj, jj, jj, jj, jj, jj, jj, jj, jj, jj, jj, jj, jj, jj, jj, jj, jj, jj, jj, jj, jj, jj, jj, jj, jj, jj] [] (0 : Nat)))) ((0 : Int))) (by kernel_rfl) ?_
  refine W.loop (fun (s_897 : Int) => (Cfg.mk Mode.run (headTodo Go.Proofs.Tryd.prog 18 0) (St.mk [AV.list (Ty.list (Ty.prod Ty.str (Ty.prod Ty.str Ty.str))) l_841 Bool.false, jj, jj, jj, AV.int IntKind.i64 s_897, jj, jj, jj, jj, jj, jj, jj, jj, jj, jj, jj, jj, jj, jj, jj, jj, jj, jj, jj, jj, jj, jj, jj, jj, jj, jj, jj, jj, jj, jj, jj, jj, jj, jj, jj, jj, jj, jj, jj, jj, jj, jj, jj, jj, jj, jj, jj, jj, jj, jj, jj, jj, jj, jj, jj, jj, jj, jj, jj, jj, jj, jj, jj, jj] [] (0 : Nat)))) (fun t => (Sum.elim (fun t_844 => r = ([], (22 : Int))) (fun t_845 => Walk Go.Proofs.Tryd.prog 18 (Cfg.mk Mode.run ((headTodo Go.Proofs.Tryd.prog 18 0).drop 3) (St.mk [AV.list (Ty.list (Ty.prod Ty.str (Ty.prod Ty.str Ty.str))) l_841 Bool.false, jj, jj, jj, jj, jj, jj, jj, jj, jj, jj, jj, jj, jj, jj, jj, jj, jj, jj, jj, jj, jj, jj, jj, jj, jj, jj, jj, jj, jj, jj, jj, jj, jj, jj, jj, jj, jj, jj, jj, jj, jj, jj, jj, jj, jj, jj, jj, jj, jj, jj, jj, jj, jj, jj, jj, jj, jj, jj, jj, jj, jj, jj, jj, jj, jj, jj, jj, jj] [] (0 : Nat))) (cellarerref07_All_res r) (cellarerref07_All_out r))) t) h (fun t h => ?_) (fun s_897 x891 h891 K891 => ?_)
  ·
    rcases t with t_844 | t_845
    · replace h := W.inl (h)
      refine W.elimL (?_)
      exact (Option.some.inj h).symm
    · replace h := W.inr (h)
      refine W.elimR (?_)
      refine W.cond 0 100000 h (by kernel_rfl) (fun h => ?_) (fun h => ?_)
      ·
        exact W.retT 0 100000 h (by kernel_rfl)
      ·
        refine W.at 0 100000 [Co.own 5 (Ty.str)] [0, 5, 6] (c' := (fun (s_898 : Int × List (List UInt8)) => (Cfg.mk Mode.run (headTodo Go.Proofs.Tryd.prog 18 1) (St.mk [AV.list (Ty.list (Ty.prod Ty.str (Ty.prod Ty.str Ty.str))) l_841 Bool.false, jj, jj, jj, jj, AV.view (0 : Nat) (0 : Nat) Option.none, AV.int IntKind.i64 (Prod.fst s_898), jj, jj, jj, jj, jj, jj, jj, jj, jj, jj, jj, jj, jj, jj, jj, jj, jj, jj, jj, jj, jj, jj, jj, jj, jj, jj, jj, jj, jj, jj, jj, jj, jj, jj, jj, jj, jj, jj, jj, jj, jj, jj, jj, jj, jj, jj, jj, jj, jj, jj, jj, jj, jj, jj, jj, jj, jj, jj, jj, jj, jj, jj] [AO.row Ty.str (Prod.snd s_898)] (0 : Nat)))) ((0 : Int), [])) (by kernel_rfl) ?_
        refine W.loop (fun (s_898 : Int × List (List UInt8)) => (Cfg.mk Mode.run (headTodo Go.Proofs.Tryd.prog 18 1) (St.mk [AV.list (Ty.list (Ty.prod Ty.str (Ty.prod Ty.str Ty.str))) l_841 Bool.false, jj, jj, jj, jj, AV.view (0 : Nat) (0 : Nat) Option.none, AV.int IntKind.i64 (Prod.fst s_898), jj, jj, jj, jj, jj, jj, jj, jj, jj, jj, jj, jj, jj, jj, jj, jj, jj, jj, jj, jj, jj, jj, jj, jj, jj, jj, jj, jj, jj, jj, jj, jj, jj, jj, jj, jj, jj, jj, jj, jj, jj, jj, jj, jj, jj, jj, jj, jj, jj, jj, jj, jj, jj, jj, jj, jj, jj, jj, jj, jj, jj, jj] [AO.row Ty.str (Prod.snd s_898)] (0 : Nat)))) (fun t => (Sum.elim (fun t_885 => r = ([], (1 : Int))) (fun t_887 => Walk Go.Proofs.Tryd.prog 18 (Cfg.mk Mode.run ((headTodo Go.Proofs.Tryd.prog 18 1).drop 3) (St.mk [jj, jj, jj, jj, jj, AV.view (0 : Nat) (0 : Nat) Option.none, jj, jj, jj, jj, jj, jj, jj, jj, jj, jj, jj, jj, jj, jj, jj, jj, jj, jj, jj, jj, jj, jj, jj, jj, jj, jj, jj, jj, jj, jj, jj, jj, jj, jj, jj, jj, jj, jj, jj, jj, jj, jj, jj, jj, jj, jj, jj, jj, jj, jj, jj, jj, jj, jj, jj, jj, jj, jj, jj, jj, jj, jj, jj] [AO.row Ty.str t_887] (0 : Nat))) (cellarerref07_All_res r) (cellarerref07_All_out r))) t) h (fun t h => ?_) (fun s_898 x890 h890 K890 => ?_)
        ·
          rcases t with t_885 | t_887
          · replace h := W.inl (h)
            refine W.elimL (?_)
            exact (Option.some.inj h).symm
          · replace h := W.inr (h)
            refine W.elimR (?_)
            refine W.bind h fun a_888 ha_888 h => ?_
            refine W.call 0 100000 (by kernel_rfl) (cellarerref06_Join_con ha_888) (by kernel_rfl) ?_
            exact W.retT 0 100000 h (by kernel_rfl)
        · unfold cellarerref07_All_b2 at h890
          refine W.cond 2 100000 h890 (by kernel_rfl) (fun h890 => ?_) (fun h890 => ?_)
          ·
            refine W.at 2 100000 [Co.own 7 (Ty.str)] [0, 5, 6, 7, 8] (c' := (fun (s_899 : Int × List (List UInt8)) => (Cfg.mk Mode.run (headTodo Go.Proofs.Tryd.prog 18 2) (St.mk [AV.list (Ty.list (Ty.prod Ty.str (Ty.prod Ty.str Ty.str))) l_841 Bool.false, jj, jj, jj, jj, AV.view (0 : Nat) (0 : Nat) Option.none, AV.int IntKind.i64 (Prod.fst s_898), AV.view (1 : Nat) (0 : Nat) Option.none, AV.int IntKind.i64 (Prod.fst s_899), jj, jj, jj, jj, jj, jj, jj, jj, jj, jj, jj, jj, jj, jj, jj, jj, jj, jj, jj, jj, jj, jj, jj, jj, jj, jj, jj, jj, jj, jj, jj, jj, jj, jj, jj, jj, jj, jj, jj, jj, jj, jj, jj, jj, jj, jj, jj, jj, jj, jj, jj, jj, jj, jj, jj, jj, jj, jj, jj, jj] [AO.row Ty.str (Prod.snd s_898), AO.row Ty.str (Prod.snd s_899)] (0 : Nat)))) ((0 : Int), [])) (by kernel_rfl) ?_
            refine W.loop (fun (s_899 : Int × List (List UInt8)) => (Cfg.mk Mode.run (headTodo Go.Proofs.Tryd.prog 18 2) (St.mk [AV.list (Ty.list (Ty.prod Ty.str (Ty.prod Ty.str Ty.str))) l_841 Bool.false, jj, jj, jj, jj, AV.view (0 : Nat) (0 : Nat) Option.none, AV.int IntKind.i64 (Prod.fst s_898), AV.view (1 : Nat) (0 : Nat) Option.none, AV.int IntKind.i64 (Prod.fst s_899), jj, jj, jj, jj, jj, jj, jj, jj, jj, jj, jj, jj, jj, jj, jj, jj, jj, jj, jj, jj, jj, jj, jj, jj, jj, jj, jj, jj, jj, jj, jj, jj, jj, jj, jj, jj, jj, jj, jj, jj, jj, jj, jj, jj, jj, jj, jj, jj, jj, jj, jj, jj, jj, jj, jj, jj, jj, jj, jj, jj] [AO.row Ty.str (Prod.snd s_898), AO.row Ty.str (Prod.snd s_899)] (0 : Nat)))) (fun t => (Sum.elim (fun t_880 => r = ([], (1 : Int))) (fun t_882 => Walk Go.Proofs.Tryd.prog 18 (Cfg.mk Mode.run ((headTodo Go.Proofs.Tryd.prog 18 2).drop 3) (St.mk [AV.list (Ty.list (Ty.prod Ty.str (Ty.prod Ty.str Ty.str))) l_841 Bool.false, jj, jj, jj, jj, AV.view (0 : Nat) (0 : Nat) Option.none, AV.int IntKind.i64 (Prod.fst s_898), AV.view (1 : Nat) (0 : Nat) Option.none, jj, jj, jj, jj, jj, jj, jj, jj, jj, jj, jj, jj, jj, jj, jj, jj, jj, jj, jj, jj, jj, jj, jj, jj, jj, jj, jj, jj, jj, jj, jj, jj, jj, jj, jj, jj, jj, jj, jj, jj, jj, jj, jj, jj, jj, jj, jj, jj, jj, jj, jj, jj, jj, jj, jj, jj, jj, jj, jj, jj, jj] [AO.row Ty.str (Prod.snd s_898), AO.row Ty.str t_882] (0 : Nat))) (cellarerref07_All_res r) (cellarerref07_All_out r))) t) h890 (fun t h890 => ?_) (fun s_899 x885 h885 K885 => ?_)
            ·
              rcases t with t_880 | t_882
              · replace h890 := W.inl (h890)
                refine W.elimL (?_)
                cases h890; exact K890
              · replace h890 := W.inr (h890)
                refine W.elimR (?_)
                refine W.cond 2 100000 h890 (by kernel_rfl) (fun h890 => ?_) (fun h890 => ?_)
                ·
                  cases h890; exact W.retK 2 100000 K890 (by kernel_rfl)
                ·
                  refine W.bind h890 fun a_883 ha_883 h890 => ?_
                  refine W.call 2 100000 (by kernel_rfl) (cellarerref06_Join_con ha_883) (by kernel_rfl) ?_
                  refine W.needT 2 100000 h890 (by kernel_rfl) (fun h890 => ?_)
                  cases h890; exact W.at 2 100000 [Co.own 5 (Ty.str)] [0, 5, 6] (by kernel_rfl) K890
            · unfold cellarerref07_All_b1 at h885
              refine W.needT 7 100000 h885 (by kernel_rfl) (fun h885 => ?_)
              refine W.cond 7 100000 h885 (by kernel_rfl) (fun h885 => ?_) (fun h885 => ?_)
              ·
                refine W.needT 7 100000 h885 (by kernel_rfl) (fun h885 => ?_)
                refine W.needT 7 100000 h885 (by kernel_rfl) (fun h885 => ?_)
                refine W.bind h885 fun a_878 ha_878 h885 => ?_
                refine W.call 7 100000 (by kernel_rfl) (cellarerref07_Right_con ha_878) (by kernel_rfl) ?_
                refine W.cond 7 100000 h885 (by kernel_rfl) (fun h885 => ?_) (fun h885 => ?_)
                ·
                  cases h885; exact W.retK 7 100000 K885 (by kernel_rfl)
                ·
                  refine W.needT 7 100000 h885 (by kernel_rfl) (fun h885 => ?_)
                  refine W.needT 7 100000 h885 (by kernel_rfl) (fun h885 => ?_)
                  refine W.bind h885 fun a_879 ha_879 h885 => ?_
                  refine W.call 7 100000 (by kernel_rfl) (cellarerref07_Text_con ha_879) (by kernel_rfl) ?_
                  refine W.needT 7 100000 h885 (by kernel_rfl) (fun h885 => ?_)
                  cases h885; exact W.at 7 100000 [Co.own 7 (Ty.str)] [0, 5, 6, 7, 8] (by kernel_rfl) K885
              ·
                cases h885; exact W.at 7 100000 [] [0, 5, 6, 7] (by kernel_rfl) K885
          ·
            cases h890; exact W.at 2 100000 [] [5] (by kernel_rfl) K890
  · unfold cellarerref07_All_b0 at h891
    refine W.cond 2 100000 h891 (by kernel_rfl) (fun h891 => ?_) (fun h891 => ?_)
    ·
      refine W.needT 2 100000 h891 (by kernel_rfl) (fun h891 => ?_)
      refine W.cond 2 100000 h891 (by kernel_rfl) (fun h891 => ?_) (fun h891 => ?_)
      ·
        cases h891; exact W.retK 2 100000 K891 (by kernel_rfl)
      ·
        cases h891; exact W.at 2 100000 [] [0, 4] (by kernel_rfl) K891
    ·
      cases h891; exact W.at 2 100000 [] [0] (by kernel_rfl) K891

theorem api_Rel__41_con {s_902 : List UInt8} {between_903 : List UInt8} {r : Int × List (List (List UInt8 × List UInt8 × List UInt8))} (h : api_Rel__41 s_902 between_903 = some r) : Con Go.Proofs.Tryd.prog 41 [AV.str s_902, AV.func (Go.Fn.func (42 : Nat)) [] [], AV.str between_903] [] (api_Rel__41_res r) (api_Rel__41_out r) := by
  refine W.con (by kernel_rfl) ?_
  unfold api_Rel__41 at h
  refine W.cond 0 100000 h (by kernel_rfl) (fun h => ?_) (fun h => ?_)
  ·
    exact W.retT 0 100000 h (by kernel_rfl)
  ·
    refine W.bind h fun a_904 ha_904 h => ?_
    refine W.call 0 100000 (by kernel_rfl) (strings_Split_con ha_904) (by kernel_rfl) ?_
    refine W.at 0 100000 [Co.own 8 (Ty.list (Ty.prod Ty.str (Ty.prod Ty.str Ty.str)))] [1, 8, 17, 18, 19] (c' := (fun (s_928 : Int × List (List (List UInt8 × List UInt8 × List UInt8))) => (Cfg.mk Mode.run (headTodo Go.Proofs.Tryd.prog 41 0) (St.mk [jj, AV.func (Go.Fn.func (42 : Nat)) [] [], jj, jj, jj, jj, jj, jj, AV.view (0 : Nat) (0 : Nat) Option.none, jj, jj, jj, jj, jj, jj, jj, jj, AV.view (1 : Nat) (0 : Nat) Option.none, AV.int IntKind.i64 ((↑(List.length a_904) : Int) - (↑(0 : Nat) : Int)), AV.int IntKind.i64 (Prod.fst s_928), jj, jj, jj, jj, jj, jj, jj, jj, jj, jj, jj, jj, jj, jj, jj, jj, jj, jj, jj, jj, jj, jj] [AO.row (Ty.list (Ty.prod Ty.str (Ty.prod Ty.str Ty.str))) (Prod.snd s_928), AO.row Ty.str a_904] (0 : Nat)))) ((0 : Int), [])) (by kernel_rfl) ?_
    refine W.loop (fun (s_928 : Int × List (List (List UInt8 × List UInt8 × List UInt8))) => (Cfg.mk Mode.run (headTodo Go.Proofs.Tryd.prog 41 0) (St.mk [jj, AV.func (Go.Fn.func (42 : Nat)) [] [], jj, jj, jj, jj, jj, jj, AV.view (0 : Nat) (0 : Nat) Option.none, jj, jj, jj, jj, jj, jj, jj, jj, AV.view (1 : Nat) (0 : Nat) Option.none, AV.int IntKind.i64 ((↑(List.length a_904) : Int) - (↑(0 : Nat) : Int)), AV.int IntKind.i64 (Prod.fst s_928), jj, jj, jj, jj, jj, jj, jj, jj, jj, jj, jj, jj, jj, jj, jj, jj, jj, jj, jj, jj, jj, jj] [AO.row (Ty.list (Ty.prod Ty.str (Ty.prod Ty.str Ty.str))) (Prod.snd s_928), AO.row Ty.str a_904] (0 : Nat)))) (fun t => (Sum.elim (fun t_920 => r = ((2 : Int), [])) (fun t_922 => Walk Go.Proofs.Tryd.prog 41 (Cfg.mk Mode.run ((headTodo Go.Proofs.Tryd.prog 41 0).drop 3) (St.mk [jj, jj, jj, jj, jj, jj, jj, jj, AV.view (0 : Nat) (0 : Nat) Option.none, jj, jj, jj, jj, jj, jj, jj, jj, jj, jj, jj, jj, jj, jj, jj, jj, jj, jj, jj, jj, jj, jj, jj, jj, jj, jj, jj, jj, jj, jj, jj, jj, jj] [AO.row (Ty.list (Ty.prod Ty.str (Ty.prod Ty.str Ty.str))) t_922] (0 : Nat))) (api_Rel__41_res r) (api_Rel__41_out r))) t) h (fun t h => ?_) (fun s_928 x924 h924 K924 => ?_)
    ·
      rcases t with t_920 | t_922
      · replace h := W.inl (h)
        refine W.elimL (?_)
        exact (Option.some.inj h).symm
      · replace h := W.inr (h)
        refine W.elimR (?_)
        exact W.retT 0 100000 h (by kernel_rfl)
    · unfold api_Rel__41_b0 at h924
      refine W.cond 2 100000 h924 (by kernel_rfl) (fun h924 => ?_) (fun h924 => ?_)
      ·
        refine W.needT 2 100000 h924 (by kernel_rfl) (fun h924 => ?_)
        refine W.needT 2 100000 h924 (by kernel_rfl) (fun h924 => ?_)
        refine W.bind h924 fun a_916 ha_916 h924 => ?_
        refine W.call 2 100000 (by kernel_rfl) (relation_some_con ha_916) (by kernel_rfl) ?_
        refine W.join (fun t => (Sum.elim (fun t_917 => r = ((2 : Int), [])) (fun t_918 => Walk Go.Proofs.Tryd.prog 41 (Cfg.mk Mode.run (seqTodo Go.Proofs.Tryd.prog 41 12) (St.mk [jj, AV.func (Go.Fn.func (42 : Nat)) [] [], jj, jj, jj, jj, jj, jj, AV.view (0 : Nat) (0 : Nat) Option.none, jj, jj, AV.view (1 : Nat) (0 : Nat) Option.none, jj, jj, jj, jj, jj, AV.view (2 : Nat) (0 : Nat) Option.none, AV.int IntKind.i64 ((↑(List.length a_904) : Int) - (↑(0 : Nat) : Int)), AV.int IntKind.i64 (Prod.fst s_928), jj, jj, jj, jj, jj, jj, jj, jj, jj, jj, jj, jj, jj, jj, jj, jj, jj, jj, jj, jj, jj, jj] [AO.row (Ty.list (Ty.prod Ty.str (Ty.prod Ty.str Ty.str))) (Prod.snd s_928), AO.row (Ty.prod Ty.str (Ty.prod Ty.str Ty.str)) (Prod.snd a_916), AO.row Ty.str a_904] (0 : Nat))) (api_Rel__41_res r) (api_Rel__41_out r))) t) h924 (fun t h924 => ?_) (fun t920 h920 K920 => ?_)
        ·
          rcases t with t_917 | t_918
          · replace h924 := W.inl (h924)
            refine W.elimL (?_)
            cases h924; exact K924
          · replace h924 := W.inr (h924)
            refine W.elimR (?_)
            refine W.needT 2 100000 h924 (by kernel_rfl) (fun h924 => ?_)
            cases h924; exact W.at 2 100000 [Co.own 8 (Ty.list (Ty.prod Ty.str (Ty.prod Ty.str Ty.str)))] [1, 8, 17, 18, 19] (by kernel_rfl) K924
        · refine W.next 2 7 (by kernel_rfl) ?_
          refine W.cond 6 100000 h920 (by kernel_rfl) (fun h920 => ?_) (fun h920 => ?_)
          ·
            refine W.yes 6 100000 (by kernel_rfl) ?_
            refine W.yes 6 100000 (by kernel_rfl) ?_
            refine W.yes 6 100000 (by kernel_rfl) ?_
            refine W.yes 6 100000 (by kernel_rfl) ?_
            cases h920; exact W.retK 6 100000 K920 (by kernel_rfl)
          ·
            refine W.no 6 100000 (by kernel_rfl) ?_
            refine W.no 6 100000 (by kernel_rfl) ?_
            refine W.no 6 100000 (by kernel_rfl) ?_
            refine W.cond 6 100000 h920 (by kernel_rfl) (fun h920 => ?_) (fun h920 => ?_)
            ·
              cases h920; exact W.retK 6 100000 K920 (by kernel_rfl)
            ·
              cases h920; exact W.at 6 100000 [] [1, 8, 11, 17, 18, 19] (by kernel_rfl) K920
      ·
        cases h924; exact W.at 2 100000 [] [8] (by kernel_rfl) K924

theorem relation_ParseAll_con {s_901 : List UInt8} {r : Int × List (List (List UInt8 × List UInt8 × List UInt8))} (h : relation_ParseAll s_901 = some r) : Con Go.Proofs.Tryd.prog 19 [AV.str s_901] [] (relation_ParseAll_res r) (relation_ParseAll_out r) := by
  refine W.con (by kernel_rfl) ?_
  unfold relation_ParseAll at h
  refine W.bind h fun a_929 ha_929 h => ?_
  refine W.call 0 100000 (by kernel_rfl) (api_Rel__41_con ha_929) (by kernel_rfl) ?_
  exact W.retT 0 100000 h (by kernel_rfl)

theorem cellarerref07_ParseAll_con {s_934 : List UInt8} {r : Bool × List (List (List UInt8 × List UInt8 × List UInt8))} (h : cellarerref07_ParseAll s_934 = some r) : Con Go.Proofs.Tryd.prog 25 [AV.str s_934] [] (cellarerref07_ParseAll_res r) (cellarerref07_ParseAll_out r) := by
  refine W.con (by kernel_rfl) ?_
  unfold cellarerref07_ParseAll at h
  refine W.cond 0 100000 h (by kernel_rfl) (fun h => ?_) (fun h => ?_)
  ·
    exact W.retT 0 100000 h (by kernel_rfl)
  ·
    refine W.bind h fun a_935 ha_935 h => ?_
    refine W.call 0 100000 (by kernel_rfl) (cellarerref06_Split_con ha_935) (by kernel_rfl) ?_
    refine W.at 0 100000 [Co.own 4 (Ty.list (Ty.prod Ty.str (Ty.prod Ty.str Ty.str)))] [0, 4, 5, 6] (c' := (fun (s_1001 : Int × List (List (List UInt8 × List UInt8 × List UInt8))) => (Cfg.mk Mode.run (headTodo Go.Proofs.Tryd.prog 25 0) (St.mk [AV.str s_934, jj, jj, jj, AV.view (0 : Nat) (0 : Nat) Option.none, AV.view (1 : Nat) (0 : Nat) Option.none, AV.int IntKind.i64 (Prod.fst s_1001), jj, jj, jj, jj, jj, jj, jj, jj, jj, jj, jj, jj, jj, jj, jj, jj, jj, jj, jj, jj, jj, jj, jj, jj, jj, jj, jj, jj, jj, jj, jj, jj, jj, jj, jj, jj, jj, jj, jj, jj, jj, jj, jj, jj, jj, jj, jj, jj, jj, jj, jj, jj, jj, jj, jj, jj, jj, jj, jj, jj, jj, jj, jj] [AO.row (Ty.list (Ty.prod Ty.str (Ty.prod Ty.str Ty.str))) (Prod.snd s_1001), AO.row Ty.str a_935] (0 : Nat)))) ((0 : Int), [])) (by kernel_rfl) ?_
    refine W.loop (fun (s_1001 : Int × List (List (List UInt8 × List UInt8 × List UInt8))) => (Cfg.mk Mode.run (headTodo Go.Proofs.Tryd.prog 25 0) (St.mk [AV.str s_934, jj, jj, jj, AV.view (0 : Nat) (0 : Nat) Option.none, AV.view (1 : Nat) (0 : Nat) Option.none, AV.int IntKind.i64 (Prod.fst s_1001), jj, jj, jj, jj, jj, jj, jj, jj, jj, jj, jj, jj, jj, jj, jj, jj, jj, jj, jj, jj, jj, jj, jj, jj, jj, jj, jj, jj, jj, jj, jj, jj, jj, jj, jj, jj, jj, jj, jj, jj, jj, jj, jj, jj, jj, jj, jj, jj, jj, jj, jj, jj, jj, jj, jj, jj, jj, jj, jj, jj, jj, jj, jj] [AO.row (Ty.list (Ty.prod Ty.str (Ty.prod Ty.str Ty.str))) (Prod.snd s_1001), AO.row Ty.str a_935] (0 : Nat)))) (fun t => (Sum.elim (fun t_991 => r = (Bool.false, [])) (fun t_993 => Walk Go.Proofs.Tryd.prog 25 (Cfg.mk Mode.run ((headTodo Go.Proofs.Tryd.prog 25 0).drop 3) (St.mk [AV.str s_934, jj, jj, jj, AV.view (0 : Nat) (0 : Nat) Option.none, jj, jj, jj, jj, jj, jj, jj, jj, jj, jj, jj, jj, jj, jj, jj, jj, jj, jj, jj, jj, jj, jj, jj, jj, jj, jj, jj, jj, jj, jj, jj, jj, jj, jj, jj, jj, jj, jj, jj, jj, jj, jj, jj, jj, jj, jj, jj, jj, jj, jj, jj, jj, jj, jj, jj, jj, jj, jj, jj, jj, jj, jj, jj, jj, jj] [AO.row (Ty.list (Ty.prod Ty.str (Ty.prod Ty.str Ty.str))) t_993] (0 : Nat))) (cellarerref07_ParseAll_res r) (cellarerref07_ParseAll_out r))) t) h (fun t h => ?_) (fun s_1001 x996 h996 K996 => ?_)
    ·
      rcases t with t_991 | t_993
      · replace h := W.inl (h)
        refine W.elimL (?_)
        exact (Option.some.inj h).symm
      · replace h := W.inr (h)
        refine W.elimR (?_)
        refine W.bind h fun a_994 ha_994 h => ?_
        refine W.call 0 100000 (by kernel_rfl) (cellarerref07_All_con ha_994) (by kernel_rfl) ?_
        refine W.cond 0 100000 h (by kernel_rfl) (fun h => ?_) (fun h => ?_)
        ·
          refine W.yes 0 100000 (by kernel_rfl) ?_
          refine W.yes 0 100000 (by kernel_rfl) ?_
          refine W.yes 0 100000 (by kernel_rfl) ?_
          refine W.yes 0 100000 (by kernel_rfl) ?_
          exact W.retT 0 100000 h (by kernel_rfl)
        ·
          refine W.no 0 100000 (by kernel_rfl) ?_
          refine W.no 0 100000 (by kernel_rfl) ?_
          refine W.no 0 100000 (by kernel_rfl) ?_
          refine W.cond 0 100000 h (by kernel_rfl) (fun h => ?_) (fun h => ?_)
          ·
            exact W.retT 0 100000 h (by kernel_rfl)
          ·
            exact W.retT 0 100000 h (by kernel_rfl)
    · unfold cellarerref07_ParseAll_b1 at h996
      refine W.cond 2 100000 h996 (by kernel_rfl) (fun h996 => ?_) (fun h996 => ?_)
      ·
        refine W.needT 2 100000 h996 (by kernel_rfl) (fun h996 => ?_)
        refine W.needT 2 100000 h996 (by kernel_rfl) (fun h996 => ?_)
        refine W.bind h996 fun a_966 ha_966 h996 => ?_
        refine W.call 2 100000 (by kernel_rfl) (cellarerref07_trimmed_con ha_966) (by kernel_rfl) ?_
        refine W.bind h996 fun a_967 ha_967 h996 => ?_
        refine W.call 2 100000 (by kernel_rfl) (cellarerref06_Split_con ha_967) (by kernel_rfl) ?_
        refine W.at 2 100000 [Co.own 7 (Ty.prod Ty.str (Ty.prod Ty.str Ty.str))] [0, 4, 5, 6, 7, 8, 9] (c' := (fun (s_1002 : Int × List (List UInt8 × List UInt8 × List UInt8)) => (Cfg.mk Mode.run (headTodo Go.Proofs.Tryd.prog 25 1) (St.mk [AV.str s_934, jj, jj, jj, AV.view (0 : Nat) (0 : Nat) Option.none, AV.view (1 : Nat) (0 : Nat) Option.none, AV.int IntKind.i64 (Prod.fst s_1001), AV.view (2 : Nat) (0 : Nat) Option.none, AV.view (3 : Nat) (0 : Nat) Option.none, AV.int IntKind.i64 (Prod.fst s_1002), jj, jj, jj, jj, jj, jj, jj, jj, jj, jj, jj, jj, jj, jj, jj, jj, jj, jj, jj, jj, jj, jj, jj, jj, jj, jj, jj, jj, jj, jj, jj, jj, jj, jj, jj, jj, jj, jj, jj, jj, jj, jj, jj, jj, jj, jj, jj, jj, jj, jj, jj, jj, jj, jj, jj, jj, jj, jj, jj, jj] [AO.row (Ty.list (Ty.prod Ty.str (Ty.prod Ty.str Ty.str))) (Prod.snd s_1001), AO.row Ty.str a_935, AO.row (Ty.prod Ty.str (Ty.prod Ty.str Ty.str)) (Prod.snd s_1002), AO.row Ty.str a_967] (0 : Nat)))) ((0 : Int), [])) (by kernel_rfl) ?_
        refine W.loop (fun (s_1002 : Int × List (List UInt8 × List UInt8 × List UInt8)) => (Cfg.mk Mode.run (headTodo Go.Proofs.Tryd.prog 25 1) (St.mk [AV.str s_934, jj, jj, jj, AV.view (0 : Nat) (0 : Nat) Option.none, AV.view (1 : Nat) (0 : Nat) Option.none, AV.int IntKind.i64 (Prod.fst s_1001), AV.view (2 : Nat) (0 : Nat) Option.none, AV.view (3 : Nat) (0 : Nat) Option.none, AV.int IntKind.i64 (Prod.fst s_1002), jj, jj, jj, jj, jj, jj, jj, jj, jj, jj, jj, jj, jj, jj, jj, jj, jj, jj, jj, jj, jj, jj, jj, jj, jj, jj, jj, jj, jj, jj, jj, jj, jj, jj, jj, jj, jj, jj, jj, jj, jj, jj, jj, jj, jj, jj, jj, jj, jj, jj, jj, jj, jj, jj, jj, jj, jj, jj, jj, jj] [AO.row (Ty.list (Ty.prod Ty.str (Ty.prod Ty.str Ty.str))) (Prod.snd s_1001), AO.row Ty.str a_935, AO.row (Ty.prod Ty.str (Ty.prod Ty.str Ty.str)) (Prod.snd s_1002), AO.row Ty.str a_967] (0 : Nat)))) (fun t => (Sum.elim (fun t_987 => r = (Bool.false, [])) (fun t_989 => Walk Go.Proofs.Tryd.prog 25 (Cfg.mk Mode.run ((headTodo Go.Proofs.Tryd.prog 25 1).drop 3) (St.mk [AV.str s_934, jj, jj, jj, AV.view (0 : Nat) (0 : Nat) Option.none, AV.view (1 : Nat) (0 : Nat) Option.none, AV.int IntKind.i64 (Prod.fst s_1001), AV.view (2 : Nat) (0 : Nat) Option.none, jj, jj, jj, jj, jj, jj, jj, jj, jj, jj, jj, jj, jj, jj, jj, jj, jj, jj, jj, jj, jj, jj, jj, jj, jj, jj, jj, jj, jj, jj, jj, jj, jj, jj, jj, jj, jj, jj, jj, jj, jj, jj, jj, jj, jj, jj, jj, jj, jj, jj, jj, jj, jj, jj, jj, jj, jj, jj, jj, jj, jj, jj] [AO.row (Ty.list (Ty.prod Ty.str (Ty.prod Ty.str Ty.str))) (Prod.snd s_1001), AO.row Ty.str a_935, AO.row (Ty.prod Ty.str (Ty.prod Ty.str Ty.str)) t_989] (0 : Nat))) (cellarerref07_ParseAll_res r) (cellarerref07_ParseAll_out r))) t) h996 (fun t h996 => ?_) (fun s_1002 x991 h991 K991 => ?_)
        ·
          rcases t with t_987 | t_989
          · replace h996 := W.inl (h996)
            refine W.elimL (?_)
            cases h996; exact K996
          · replace h996 := W.inr (h996)
            refine W.elimR (?_)
            refine W.needT 2 100000 h996 (by kernel_rfl) (fun h996 => ?_)
            cases h996; exact W.at 2 100000 [Co.own 4 (Ty.list (Ty.prod Ty.str (Ty.prod Ty.str Ty.str)))] [0, 4, 5, 6] (by kernel_rfl) K996
        · unfold cellarerref07_ParseAll_b0 at h991
          refine W.cond 7 100000 h991 (by kernel_rfl) (fun h991 => ?_) (fun h991 => ?_)
          ·
            refine W.needT 7 100000 h991 (by kernel_rfl) (fun h991 => ?_)
            refine W.needT 7 100000 h991 (by kernel_rfl) (fun h991 => ?_)
            refine W.bind h991 fun a_984 ha_984 h991 => ?_
            refine W.call 7 100000 (by kernel_rfl) (cellarerref07_trimmed_con ha_984) (by kernel_rfl) ?_
            refine W.bind h991 fun a_985 ha_985 h991 => ?_
            refine W.call 7 100000 (by kernel_rfl) (cellarerref07_trimmed_con ha_985) (by kernel_rfl) ?_
            refine W.bind h991 fun a_986 ha_986 h991 => ?_
            refine W.call 7 100000 (by kernel_rfl) (cellarerref07_Parse_con ha_986) (by kernel_rfl) ?_
            refine W.cond 7 100000 h991 (by kernel_rfl) (fun h991 => ?_) (fun h991 => ?_)
            ·
              cases h991; exact W.retK 7 100000 K991 (by kernel_rfl)
            ·
              refine W.needT 7 100000 h991 (by kernel_rfl) (fun h991 => ?_)
              cases h991; exact W.at 7 100000 [Co.own 7 (Ty.prod Ty.str (Ty.prod Ty.str Ty.str))] [0, 4, 5, 6, 7, 8, 9] (by kernel_rfl) K991
          ·
            cases h991; exact W.at 7 100000 [] [0, 4, 5, 6, 7] (by kernel_rfl) K991
      ·
        cases h996; exact W.at 2 100000 [] [0, 4] (by kernel_rfl) K996

theorem relation_ParseList_con {s_1004 : List UInt8} {r : Int × List (List UInt8 × List UInt8 × List UInt8)} (h : relation_ParseList s_1004 = some r) : Con Go.Proofs.Tryd.prog 26 [AV.str s_1004] [] (relation_ParseList_res r) (relation_ParseList_out r) := by
  refine W.con (by kernel_rfl) ?_
  unfold relation_ParseList at h
  refine W.bind h fun a_1005 ha_1005 h => ?_
  refine W.call 0 100000 (by kernel_rfl) (api_Rel__47_con ha_1005) (by kernel_rfl) ?_
  exact W.retT 0 100000 h (by kernel_rfl)

theorem cellarerref07_ParseList_con {s_1010 : List UInt8} {r : Bool × List (List UInt8 × List UInt8 × List UInt8)} (h : cellarerref07_ParseList s_1010 = some r) : Con Go.Proofs.Tryd.prog 27 [AV.str s_1010] [] (cellarerref07_ParseList_res r) (cellarerref07_ParseList_out r) := by
  refine W.con (by kernel_rfl) ?_
  unfold cellarerref07_ParseList at h
  refine W.bind h fun a_1011 ha_1011 h => ?_
  refine W.call 0 100000 (by kernel_rfl) (cellarerref07_ParseAll_con ha_1011) (by kernel_rfl) ?_
  refine W.at 0 100000 [Co.own 4 (Ty.prod Ty.str (Ty.prod Ty.str Ty.str))] [4, 5, 6, 7] (c' := (fun (s_1027 : Int × List (List UInt8 × List UInt8 × List UInt8)) => (Cfg.mk Mode.run (headTodo Go.Proofs.Tryd.prog 27 0) (St.mk [jj, jj, jj, jj, AV.view (0 : Nat) (0 : Nat) Option.none, AV.view (1 : Nat) (0 : Nat) Option.none, AV.bool (Prod.fst a_1011), AV.int IntKind.i64 (Prod.fst s_1027), jj, jj, jj, jj, jj, jj, jj, jj, jj, jj, jj, jj, jj, jj, jj, jj, jj, jj, jj, jj, jj, jj, jj, jj, jj, jj, jj, jj] [AO.row (Ty.prod Ty.str (Ty.prod Ty.str Ty.str)) (Prod.snd s_1027), AO.row (Ty.list (Ty.prod Ty.str (Ty.prod Ty.str Ty.str))) (Prod.snd a_1011)] (0 : Nat)))) ((0 : Int), [])) (by kernel_rfl) ?_
  refine W.loop (fun (s_1027 : Int × List (List UInt8 × List UInt8 × List UInt8)) => (Cfg.mk Mode.run (headTodo Go.Proofs.Tryd.prog 27 0) (St.mk [jj, jj, jj, jj, AV.view (0 : Nat) (0 : Nat) Option.none, AV.view (1 : Nat) (0 : Nat) Option.none, AV.bool (Prod.fst a_1011), AV.int IntKind.i64 (Prod.fst s_1027), jj, jj, jj, jj, jj, jj, jj, jj, jj, jj, jj, jj, jj, jj, jj, jj, jj, jj, jj, jj, jj, jj, jj, jj, jj, jj, jj, jj] [AO.row (Ty.prod Ty.str (Ty.prod Ty.str Ty.str)) (Prod.snd s_1027), AO.row (Ty.list (Ty.prod Ty.str (Ty.prod Ty.str Ty.str))) (Prod.snd a_1011)] (0 : Nat)))) (fun t => (Sum.elim (fun t_1019 => r = (Bool.false, [])) (fun t_1021 => Walk Go.Proofs.Tryd.prog 27 (Cfg.mk Mode.run ((headTodo Go.Proofs.Tryd.prog 27 0).drop 3) (St.mk [jj, jj, jj, jj, AV.view (0 : Nat) (0 : Nat) Option.none, jj, AV.bool (Prod.fst a_1011), jj, jj, jj, jj, jj, jj, jj, jj, jj, jj, jj, jj, jj, jj, jj, jj, jj, jj, jj, jj, jj, jj, jj, jj, jj, jj, jj, jj, jj] [AO.row (Ty.prod Ty.str (Ty.prod Ty.str Ty.str)) t_1021] (0 : Nat))) (cellarerref07_ParseList_res r) (cellarerref07_ParseList_out r))) t) h (fun t h => ?_) (fun s_1027 x1023 h1023 K1023 => ?_)
  ·
    rcases t with t_1019 | t_1021
    · replace h := W.inl (h)
      refine W.elimL (?_)
      exact (Option.some.inj h).symm
    · replace h := W.inr (h)
      refine W.elimR (?_)
      exact W.retT 0 100000 h (by kernel_rfl)
  · unfold cellarerref07_ParseList_b0 at h1023
    refine W.cond 2 100000 h1023 (by kernel_rfl) (fun h1023 => ?_) (fun h1023 => ?_)
    ·
      refine W.needT 2 100000 h1023 (by kernel_rfl) (fun h1023 => ?_)
      refine W.needT 2 100000 h1023 (by kernel_rfl) (fun h1023 => ?_)
      refine W.cond 2 100000 h1023 (by kernel_rfl) (fun h1023 => ?_) (fun h1023 => ?_)
      ·
        cases h1023; exact W.retK 2 100000 K1023 (by kernel_rfl)
      ·
        refine W.needT 2 100000 h1023 (by kernel_rfl) (fun h1023 => ?_)
        refine W.needT 2 100000 h1023 (by kernel_rfl) (fun h1023 => ?_)
        refine W.needT 2 100000 h1023 (by kernel_rfl) (fun h1023 => ?_)
        refine W.needT 2 100000 h1023 (by kernel_rfl) (fun h1023 => ?_)
        cases h1023; exact W.at 2 100000 [Co.own 4 (Ty.prod Ty.str (Ty.prod Ty.str Ty.str))] [4, 5, 6, 7] (by kernel_rfl) K1023
    ·
      cases h1023; exact W.at 2 100000 [] [4, 6] (by kernel_rfl) K1023

theorem relation_List_con {l_1029 : List (List UInt8 × List UInt8 × List UInt8)} {r : List UInt8 × Int} (h : relation_List l_1029 = some r) : Con Go.Proofs.Tryd.prog 29 [AV.list (Ty.prod Ty.str (Ty.prod Ty.str Ty.str)) l_1029 Bool.false] [] (relation_List_res r) (relation_List_out r) := by
  refine W.con (by kernel_rfl) ?_
  unfold relation_List at h
  refine W.bind h fun a_1030 ha_1030 h => ?_
  refine W.call 0 100000 (by kernel_rfl) (api_Rel__con ha_1030) (by kernel_rfl) ?_
  exact W.retT 0 100000 h (by kernel_rfl)

theorem cellarerref07_List_con {l_1035 : List (List UInt8 × List UInt8 × List UInt8)} {r : List UInt8 × Int} (h : cellarerref07_List l_1035 = some r) : Con Go.Proofs.Tryd.prog 30 [AV.list (Ty.prod Ty.str (Ty.prod Ty.str Ty.str)) l_1035 Bool.false] [] (cellarerref07_List_res r) (cellarerref07_List_out r) := by
  refine W.con (by kernel_rfl) ?_
  unfold cellarerref07_List at h
  refine W.bind h fun a_1036 ha_1036 h => ?_
  refine W.call 0 100000 (by kernel_rfl) (cellarerref07_Ones_con ha_1036) (by kernel_rfl) ?_
  refine W.bind h fun a_1037 ha_1037 h => ?_
  refine W.call 0 100000 (by kernel_rfl) (cellarerref07_All_con ha_1037) (by kernel_rfl) ?_
  exact W.retT 0 100000 h (by kernel_rfl)

theorem cellarerref07_SameList_con {a_1048 : List (List UInt8 × List UInt8 × List UInt8)} {b_1049 : List (List UInt8 × List UInt8 × List UInt8)} {r : Bool} (h : cellarerref07_SameList a_1048 b_1049 = some r) : Con Go.Proofs.Tryd.prog 28 [AV.list (Ty.prod Ty.str (Ty.prod Ty.str Ty.str)) a_1048 Bool.false, AV.list (Ty.prod Ty.str (Ty.prod Ty.str Ty.str)) b_1049 Bool.false] [] (cellarerref07_SameList_res r) (cellarerref07_SameList_out r) := by
  refine W.con (by kernel_rfl) ?_
  unfold cellarerref07_SameList at h
  refine W.cond 0 100000 h (by kernel_rfl) (fun h => ?_) (fun h => ?_)
  ·
    exact W.retT 0 100000 h (by kernel_rfl)
  ·
    refine W.at 0 100000 [] [0, 1, 5] (c' := (fun (s_1059 : Int) => (Cfg.mk Mode.run (headTodo Go.Proofs.Tryd.prog 28 0) (St.mk [AV.list (Ty.prod Ty.str (Ty.prod Ty.str Ty.str)) a_1048 Bool.false, AV.list (Ty.prod Ty.str (Ty.prod Ty.str Ty.str)) b_1049 Bool.false, jj, jj, jj, AV.int IntKind.i64 s_1059, jj, jj, jj, jj, jj, jj, jj, jj, jj, jj, jj, jj, jj, jj, jj, jj, jj, jj, jj, jj] [] (0 : Nat)))) ((0 : Int))) (by kernel_rfl) ?_
    refine W.loop (fun (s_1059 : Int) => (Cfg.mk Mode.run (headTodo Go.Proofs.Tryd.prog 28 0) (St.mk [AV.list (Ty.prod Ty.str (Ty.prod Ty.str Ty.str)) a_1048 Bool.false, AV.list (Ty.prod Ty.str (Ty.prod Ty.str Ty.str)) b_1049 Bool.false, jj, jj, jj, AV.int IntKind.i64 s_1059, jj, jj, jj, jj, jj, jj, jj, jj, jj, jj, jj, jj, jj, jj, jj, jj, jj, jj, jj, jj] [] (0 : Nat)))) (fun t => (Sum.elim (fun t_1053 => r = (Bool.false)) (fun t_1054 => Walk Go.Proofs.Tryd.prog 28 (Cfg.mk Mode.run ((headTodo Go.Proofs.Tryd.prog 28 0).drop 3) (St.mk [jj, jj, jj, jj, jj, jj, jj, jj, jj, jj, jj, jj, jj, jj, jj, jj, jj, jj, jj, jj, jj, jj, jj, jj, jj, jj] [] (0 : Nat))) (cellarerref07_SameList_res r) (cellarerref07_SameList_out r))) t) h (fun t h => ?_) (fun s_1059 x1056 h1056 K1056 => ?_)
    ·
      rcases t with t_1053 | t_1054
      · replace h := W.inl (h)
        refine W.elimL (?_)
        exact (Option.some.inj h).symm
      · replace h := W.inr (h)
        refine W.elimR (?_)
        exact W.retT 0 100000 h (by kernel_rfl)
    · unfold cellarerref07_SameList_b0 at h1056
      refine W.cond 2 100000 h1056 (by kernel_rfl) (fun h1056 => ?_) (fun h1056 => ?_)
      ·
        refine W.needT 2 100000 h1056 (by kernel_rfl) (fun h1056 => ?_)
        refine W.needT 2 100000 h1056 (by kernel_rfl) (fun h1056 => ?_)
        refine W.cond 2 100000 h1056 (by kernel_rfl) (fun h1056 => ?_) (fun h1056 => ?_)
        ·
          cases h1056; exact W.retK 2 100000 K1056 (by kernel_rfl)
        ·
          cases h1056; exact W.at 2 100000 [] [0, 1, 5] (by kernel_rfl) K1056
      ·
        cases h1056; exact W.at 2 100000 [] [] (by kernel_rfl) K1056

theorem cellarerref07_Same_con {a_1043 : List (List (List UInt8 × List UInt8 × List UInt8))} {b_1044 : List (List (List UInt8 × List UInt8 × List UInt8))} {r : Bool} (h : cellarerref07_Same a_1043 b_1044 = some r) : Con Go.Proofs.Tryd.prog 20 [AV.list (Ty.list (Ty.prod Ty.str (Ty.prod Ty.str Ty.str))) a_1043 Bool.false, AV.list (Ty.list (Ty.prod Ty.str (Ty.prod Ty.str Ty.str))) b_1044 Bool.false] [] (cellarerref07_Same_res r) (cellarerref07_Same_out r) := by
  refine W.con (by kernel_rfl) ?_
  unfold cellarerref07_Same at h
  refine W.cond 0 100000 h (by kernel_rfl) (fun h => ?_) (fun h => ?_)
  ·
    exact W.retT 0 100000 h (by kernel_rfl)
  ·
    refine W.at 0 100000 [] [0, 1, 5] (c' := (fun (s_1067 : Int) => (Cfg.mk Mode.run (headTodo Go.Proofs.Tryd.prog 20 0) (St.mk [AV.list (Ty.list (Ty.prod Ty.str (Ty.prod Ty.str Ty.str))) a_1043 Bool.false, AV.list (Ty.list (Ty.prod Ty.str (Ty.prod Ty.str Ty.str))) b_1044 Bool.false, jj, jj, jj, AV.int IntKind.i64 s_1067, jj, jj, jj, jj, jj, jj, jj, jj, jj, jj, jj, jj, jj, jj, jj, jj, jj, jj, jj, jj, jj] [] (0 : Nat)))) ((0 : Int))) (by kernel_rfl) ?_
    refine W.loop (fun (s_1067 : Int) => (Cfg.mk Mode.run (headTodo Go.Proofs.Tryd.prog 20 0) (St.mk [AV.list (Ty.list (Ty.prod Ty.str (Ty.prod Ty.str Ty.str))) a_1043 Bool.false, AV.list (Ty.list (Ty.prod Ty.str (Ty.prod Ty.str Ty.str))) b_1044 Bool.false, jj, jj, jj, AV.int IntKind.i64 s_1067, jj, jj, jj, jj, jj, jj, jj, jj, jj, jj, jj, jj, jj, jj, jj, jj, jj, jj, jj, jj, jj] [] (0 : Nat)))) (fun t => (Sum.elim (fun t_1061 => r = (Bool.false)) (fun t_1062 => Walk Go.Proofs.Tryd.prog 20 (Cfg.mk Mode.run ((headTodo Go.Proofs.Tryd.prog 20 0).drop 3) (St.mk [jj, jj, jj, jj, jj, jj, jj, jj, jj, jj, jj, jj, jj, jj, jj, jj, jj, jj, jj, jj, jj, jj, jj, jj, jj, jj, jj] [] (0 : Nat))) (cellarerref07_Same_res r) (cellarerref07_Same_out r))) t) h (fun t h => ?_) (fun s_1067 x1064 h1064 K1064 => ?_)
    ·
      rcases t with t_1061 | t_1062
      · replace h := W.inl (h)
        refine W.elimL (?_)
        exact (Option.some.inj h).symm
      · replace h := W.inr (h)
        refine W.elimR (?_)
        exact W.retT 0 100000 h (by kernel_rfl)
    · unfold cellarerref07_Same_b0 at h1064
      refine W.cond 2 100000 h1064 (by kernel_rfl) (fun h1064 => ?_) (fun h1064 => ?_)
      ·
        refine W.needT 2 100000 h1064 (by kernel_rfl) (fun h1064 => ?_)
        refine W.needT 2 100000 h1064 (by kernel_rfl) (fun h1064 => ?_)
        refine W.bind h1064 fun a_1060 ha_1060 h1064 => ?_
        refine W.call 2 100000 (by kernel_rfl) (cellarerref07_SameList_con ha_1060) (by kernel_rfl) ?_
        refine W.cond 2 100000 h1064 (by kernel_rfl) (fun h1064 => ?_) (fun h1064 => ?_)
        ·
          cases h1064; exact W.retK 2 100000 K1064 (by kernel_rfl)
        ·
          cases h1064; exact W.at 2 100000 [] [0, 1, 5] (by kernel_rfl) K1064
      ·
        cases h1064; exact W.at 2 100000 [] [] (by kernel_rfl) K1064

theorem relation_Fits_con {x_1073 : List UInt8} {x_1074 : List UInt8} {x_1075 : List UInt8} {name_1076 : List UInt8} {v_1077 : List UInt8} {r : Bool} (h : relation_Fits x_1073 x_1074 x_1075 name_1076 v_1077 = some r) : Con Go.Proofs.Tryd.prog 21 [AV.agg [AV.str x_1073, AV.str x_1074, AV.str x_1075], AV.str name_1076, AV.str v_1077] [] (relation_Fits_res r) (relation_Fits_out r) := by
  refine W.con (by kernel_rfl) ?_
  unfold relation_Fits at h
  refine W.cond 0 100000 h (by kernel_rfl) (fun h => ?_) (fun h => ?_)
  ·
    refine W.yes 0 100000 (by kernel_rfl) ?_
    refine W.yes 0 100000 (by kernel_rfl) ?_
    refine W.yes 0 100000 (by kernel_rfl) ?_
    refine W.yes 0 100000 (by kernel_rfl) ?_
    refine W.yes 0 100000 (by kernel_rfl) ?_
    refine W.bind h fun a_1078 ha_1078 h => ?_
    refine W.call 0 100000 (by kernel_rfl) (version_Holds_con ha_1078) (by kernel_rfl) ?_
    refine W.yes 0 100000 (by kernel_rfl) ?_
    exact W.retT 0 100000 h (by kernel_rfl)
  ·
    refine W.no 0 100000 (by kernel_rfl) ?_
    refine W.no 0 100000 (by kernel_rfl) ?_
    refine W.no 0 100000 (by kernel_rfl) ?_
    refine W.no 0 100000 (by kernel_rfl) ?_
    refine W.no 0 100000 (by kernel_rfl) ?_
    refine W.no 0 100000 (by kernel_rfl) ?_
    exact W.retT 0 100000 h (by kernel_rfl)

theorem cellarerref07_Fits_con {x_1084 : List UInt8} {x_1085 : List UInt8} {x_1086 : List UInt8} {name_1087 : List UInt8} {v_1088 : List UInt8} {r : Bool} (h : cellarerref07_Fits x_1084 x_1085 x_1086 name_1087 v_1088 = some r) : Con Go.Proofs.Tryd.prog 22 [AV.agg [AV.str x_1084, AV.str x_1085, AV.str x_1086], AV.str name_1087, AV.str v_1088] [] (cellarerref07_Fits_res r) (cellarerref07_Fits_out r) := by
  refine W.con (by kernel_rfl) ?_
  unfold cellarerref07_Fits at h
  refine W.cond 0 100000 h (by kernel_rfl) (fun h => ?_) (fun h => ?_)
  ·
    refine W.yes 0 100000 (by kernel_rfl) ?_
    refine W.yes 0 100000 (by kernel_rfl) ?_
    refine W.yes 0 100000 (by kernel_rfl) ?_
    refine W.yes 0 100000 (by kernel_rfl) ?_
    refine W.yes 0 100000 (by kernel_rfl) ?_
    refine W.bind h fun a_1089 ha_1089 h => ?_
    refine W.call 0 100000 (by kernel_rfl) (cellarerref05_Holds_con ha_1089) (by kernel_rfl) ?_
    refine W.yes 0 100000 (by kernel_rfl) ?_
    exact W.retT 0 100000 h (by kernel_rfl)
  ·
    refine W.no 0 100000 (by kernel_rfl) ?_
    refine W.no 0 100000 (by kernel_rfl) ?_
    refine W.no 0 100000 (by kernel_rfl) ?_
    refine W.no 0 100000 (by kernel_rfl) ?_
    refine W.no 0 100000 (by kernel_rfl) ?_
    refine W.no 0 100000 (by kernel_rfl) ?_
    exact W.retT 0 100000 h (by kernel_rfl)

theorem relation_met_con {g_1094 : List (List UInt8 × List UInt8 × List UInt8)} {there_1095 : List (List UInt8 × List UInt8 × List UInt8)} {r : Bool} (h : relation_met g_1094 there_1095 = some r) : Con Go.Proofs.Tryd.prog 45 [AV.list (Ty.prod Ty.str (Ty.prod Ty.str Ty.str)) g_1094 Bool.false, AV.list (Ty.prod Ty.str (Ty.prod Ty.str Ty.str)) there_1095 Bool.false] [] (relation_met_res r) (relation_met_out r) := by
  refine W.con (by kernel_rfl) ?_
  unfold relation_met at h
  refine W.at 0 100000 [] [1, 9, 10, 11] (c' := (fun (s_1121 : Int) => (Cfg.mk Mode.run (headTodo Go.Proofs.Tryd.prog 45 0) (St.mk [jj, AV.list (Ty.prod Ty.str (Ty.prod Ty.str Ty.str)) there_1095 Bool.false, jj, jj, jj, jj, jj, jj, jj, AV.list (Ty.prod Ty.str (Ty.prod Ty.str Ty.str)) g_1094 Bool.false, AV.int IntKind.i64 (↑(List.length g_1094) : Int), AV.int IntKind.i64 s_1121, jj, jj, jj, jj, jj, jj, jj, jj, jj, jj, jj, jj, jj, jj, jj, jj, jj] [] (0 : Nat)))) ((0 : Int))) (by kernel_rfl) ?_
  refine W.loop (fun (s_1121 : Int) => (Cfg.mk Mode.run (headTodo Go.Proofs.Tryd.prog 45 0) (St.mk [jj, AV.list (Ty.prod Ty.str (Ty.prod Ty.str Ty.str)) there_1095 Bool.false, jj, jj, jj, jj, jj, jj, jj, AV.list (Ty.prod Ty.str (Ty.prod Ty.str Ty.str)) g_1094 Bool.false, AV.int IntKind.i64 (↑(List.length g_1094) : Int), AV.int IntKind.i64 s_1121, jj, jj, jj, jj, jj, jj, jj, jj, jj, jj, jj, jj, jj, jj, jj, jj, jj] [] (0 : Nat)))) (fun t => (Sum.elim (fun t_1114 => r = (Bool.true)) (fun t_1115 => Walk Go.Proofs.Tryd.prog 45 (Cfg.mk Mode.run ((headTodo Go.Proofs.Tryd.prog 45 0).drop 3) (St.mk [jj, jj, jj, jj, jj, jj, jj, jj, jj, jj, jj, jj, jj, jj, jj, jj, jj, jj, jj, jj, jj, jj, jj, jj, jj, jj, jj, jj, jj] [] (0 : Nat))) (relation_met_res r) (relation_met_out r))) t) h (fun t h => ?_) (fun s_1121 x1117 h1117 K1117 => ?_)
  ·
    rcases t with t_1114 | t_1115
    · replace h := W.inl (h)
      refine W.elimL (?_)
      exact (Option.some.inj h).symm
    · replace h := W.inr (h)
      refine W.elimR (?_)
      exact W.retT 0 100000 h (by kernel_rfl)
  · unfold relation_met_b1 at h1117
    refine W.cond 2 100000 h1117 (by kernel_rfl) (fun h1117 => ?_) (fun h1117 => ?_)
    ·
      refine W.needT 2 100000 h1117 (by kernel_rfl) (fun h1117 => ?_)
      refine W.at 2 100000 [] [1, 6, 9, 10, 11, 15, 16, 17] (c' := (fun (s_1122 : Int) => (Cfg.mk Mode.run (headTodo Go.Proofs.Tryd.prog 45 1) (St.mk [jj, AV.list (Ty.prod Ty.str (Ty.prod Ty.str Ty.str)) there_1095 Bool.false, jj, jj, jj, jj, AV.ptr (0 : Nat) (0 : Nat), jj, jj, AV.list (Ty.prod Ty.str (Ty.prod Ty.str Ty.str)) g_1094 Bool.false, AV.int IntKind.i64 (↑(List.length g_1094) : Int), AV.int IntKind.i64 s_1121, jj, jj, jj, AV.list (Ty.prod Ty.str (Ty.prod Ty.str Ty.str)) there_1095 Bool.false, AV.int IntKind.i64 (↑(List.length there_1095) : Int), AV.int IntKind.i64 s_1122, jj, jj, jj, jj, jj, jj, jj, jj, jj, jj, jj] [AO.box [AV.str (Prod.fst (List.getD g_1094 (Int.toNat s_1121) ([], [], []))), AV.str (Prod.fst (Prod.snd (List.getD g_1094 (Int.toNat s_1121) ([], [], [])))), AV.str (Prod.snd (Prod.snd (List.getD g_1094 (Int.toNat s_1121) ([], [], []))))]] (0 : Nat)))) ((0 : Int))) (by kernel_rfl) ?_
      refine W.loop (fun (s_1122 : Int) => (Cfg.mk Mode.run (headTodo Go.Proofs.Tryd.prog 45 1) (St.mk [jj, AV.list (Ty.prod Ty.str (Ty.prod Ty.str Ty.str)) there_1095 Bool.false, jj, jj, jj, jj, AV.ptr (0 : Nat) (0 : Nat), jj, jj, AV.list (Ty.prod Ty.str (Ty.prod Ty.str Ty.str)) g_1094 Bool.false, AV.int IntKind.i64 (↑(List.length g_1094) : Int), AV.int IntKind.i64 s_1121, jj, jj, jj, AV.list (Ty.prod Ty.str (Ty.prod Ty.str Ty.str)) there_1095 Bool.false, AV.int IntKind.i64 (↑(List.length there_1095) : Int), AV.int IntKind.i64 s_1122, jj, jj, jj, jj, jj, jj, jj, jj, jj, jj, jj] [AO.box [AV.str (Prod.fst (List.getD g_1094 (Int.toNat s_1121) ([], [], []))), AV.str (Prod.fst (Prod.snd (List.getD g_1094 (Int.toNat s_1121) ([], [], [])))), AV.str (Prod.snd (Prod.snd (List.getD g_1094 (Int.toNat s_1121) ([], [], []))))]] (0 : Nat)))) (fun t => (Sum.elim (fun t_1111 => r = (Bool.true)) (fun t_1112 => Walk Go.Proofs.Tryd.prog 45 (Cfg.mk Mode.run ((headTodo Go.Proofs.Tryd.prog 45 1).drop 3) (St.mk [jj, AV.list (Ty.prod Ty.str (Ty.prod Ty.str Ty.str)) there_1095 Bool.false, jj, jj, jj, jj, jj, jj, jj, AV.list (Ty.prod Ty.str (Ty.prod Ty.str Ty.str)) g_1094 Bool.false, AV.int IntKind.i64 (↑(List.length g_1094) : Int), AV.int IntKind.i64 s_1121, jj, jj, jj, jj, jj, jj, jj, jj, jj, jj, jj, jj, jj, jj, jj, jj, jj] [] (0 : Nat))) (relation_met_res r) (relation_met_out r))) t) h1117 (fun t h1117 => ?_) (fun s_1122 x1114 h1114 K1114 => ?_)
      ·
        rcases t with t_1111 | t_1112
        · replace h1117 := W.inl (h1117)
          refine W.elimL (?_)
          cases h1117; exact K1117
        · replace h1117 := W.inr (h1117)
          refine W.elimR (?_)
          cases h1117; exact W.at 2 100000 [] [1, 9, 10, 11] (by kernel_rfl) K1117
      · unfold relation_met_b0 at h1114
        refine W.cond 6 100000 h1114 (by kernel_rfl) (fun h1114 => ?_) (fun h1114 => ?_)
        ·
          refine W.needT 6 100000 h1114 (by kernel_rfl) (fun h1114 => ?_)
          refine W.bind h1114 fun a_1110 ha_1110 h1114 => ?_
          refine W.call 6 100000 (by kernel_rfl) (relation_Fits_con ha_1110) (by kernel_rfl) ?_
          refine W.cond 6 100000 h1114 (by kernel_rfl) (fun h1114 => ?_) (fun h1114 => ?_)
          ·
            cases h1114; exact W.retK 6 100000 K1114 (by kernel_rfl)
          ·
            cases h1114; exact W.at 6 100000 [] [1, 6, 9, 10, 11, 15, 16, 17] (by kernel_rfl) K1114
        ·
          cases h1114; exact W.at 6 100000 [] [1, 9, 10, 11] (by kernel_rfl) K1114
    ·
      cases h1117; exact W.at 2 100000 [] [] (by kernel_rfl) K1117

theorem relation_Lacks_con {l_1125 : List (List (List UInt8 × List UInt8 × List UInt8))} {there_1126 : List (List UInt8 × List UInt8 × List UInt8)} {r : List Int} (h : relation_Lacks l_1125 there_1126 = some r) : Con Go.Proofs.Tryd.prog 23 [AV.list (Ty.list (Ty.prod Ty.str (Ty.prod Ty.str Ty.str))) l_1125 Bool.false, AV.list (Ty.prod Ty.str (Ty.prod Ty.str Ty.str)) there_1126 Bool.false] [] (relation_Lacks_res r) (relation_Lacks_out r) := by
  refine W.con (by kernel_rfl) ?_
  unfold relation_Lacks at h
  refine W.at 0 100000 [Co.own 5 (Ty.int IntKind.i64)] [1, 5, 8, 9, 10] (c' := (fun (s_1144 : Int × List Int) => (Cfg.mk Mode.run (headTodo Go.Proofs.Tryd.prog 23 0) (St.mk [jj, AV.list (Ty.prod Ty.str (Ty.prod Ty.str Ty.str)) there_1126 Bool.false, jj, jj, jj, AV.view (0 : Nat) (0 : Nat) Option.none, jj, jj, AV.list (Ty.list (Ty.prod Ty.str (Ty.prod Ty.str Ty.str))) l_1125 Bool.false, AV.int IntKind.i64 (↑(List.length l_1125) : Int), AV.int IntKind.i64 (Prod.fst s_1144), jj, jj, jj, jj, jj, jj, jj, jj, jj, jj, jj, jj, jj, jj] [AO.row (Ty.int IntKind.i64) (Prod.snd s_1144)] (0 : Nat)))) ((0 : Int), [])) (by kernel_rfl) ?_
  refine W.loop (fun (s_1144 : Int × List Int) => (Cfg.mk Mode.run (headTodo Go.Proofs.Tryd.prog 23 0) (St.mk [jj, AV.list (Ty.prod Ty.str (Ty.prod Ty.str Ty.str)) there_1126 Bool.false, jj, jj, jj, AV.view (0 : Nat) (0 : Nat) Option.none, jj, jj, AV.list (Ty.list (Ty.prod Ty.str (Ty.prod Ty.str Ty.str))) l_1125 Bool.false, AV.int IntKind.i64 (↑(List.length l_1125) : Int), AV.int IntKind.i64 (Prod.fst s_1144), jj, jj, jj, jj, jj, jj, jj, jj, jj, jj, jj, jj, jj, jj] [AO.row (Ty.int IntKind.i64) (Prod.snd s_1144)] (0 : Nat)))) (fun t_1139 => Walk Go.Proofs.Tryd.prog 23 (Cfg.mk Mode.run ((headTodo Go.Proofs.Tryd.prog 23 0).drop 3) (St.mk [jj, jj, jj, jj, jj, AV.view (0 : Nat) (0 : Nat) Option.none, jj, jj, jj, jj, jj, jj, jj, jj, jj, jj, jj, jj, jj, jj, jj, jj, jj, jj, jj] [AO.row (Ty.int IntKind.i64) t_1139] (0 : Nat))) (relation_Lacks_res r) (relation_Lacks_out r)) h (fun t_1139 h => ?_) (fun s_1144 x1141 h1141 K1141 => ?_)
  ·
    exact W.retT 0 100000 h (by kernel_rfl)
  · unfold relation_Lacks_b0 at h1141
    refine W.cond 2 100000 h1141 (by kernel_rfl) (fun h1141 => ?_) (fun h1141 => ?_)
    ·
      refine W.needT 2 100000 h1141 (by kernel_rfl) (fun h1141 => ?_)
      refine W.bind h1141 fun a_1137 ha_1137 h1141 => ?_
      refine W.call 2 100000 (by kernel_rfl) (relation_met_con ha_1137) (by kernel_rfl) ?_
      refine W.cond 2 100000 h1141 (by kernel_rfl) (fun h1141 => ?_) (fun h1141 => ?_)
      ·
        refine W.needT 2 100000 h1141 (by kernel_rfl) (fun h1141 => ?_)
        cases h1141; exact W.at 2 100000 [Co.own 5 (Ty.int IntKind.i64)] [1, 5, 8, 9, 10] (by kernel_rfl) K1141
      ·
        cases h1141; exact W.at 2 100000 [Co.own 5 (Ty.int IntKind.i64)] [1, 5, 8, 9, 10] (by kernel_rfl) K1141
    ·
      cases h1141; exact W.at 2 100000 [] [5] (by kernel_rfl) K1141

theorem cellarerref07_Lacks_con {l_1147 : List (List (List UInt8 × List UInt8 × List UInt8))} {there_1148 : List (List UInt8 × List UInt8 × List UInt8)} {r : List Int} (h : cellarerref07_Lacks l_1147 there_1148 = some r) : Con Go.Proofs.Tryd.prog 24 [AV.list (Ty.list (Ty.prod Ty.str (Ty.prod Ty.str Ty.str))) l_1147 Bool.false, AV.list (Ty.prod Ty.str (Ty.prod Ty.str Ty.str)) there_1148 Bool.false] [] (cellarerref07_Lacks_res r) (cellarerref07_Lacks_out r) := by
  refine W.con (by kernel_rfl) ?_
  unfold cellarerref07_Lacks at h
  refine W.at 0 100000 [Co.own 5 (Ty.int IntKind.i64)] [0, 1, 5, 6] (c' := (fun (s_1202 : Int × List Int) => (Cfg.mk Mode.run (headTodo Go.Proofs.Tryd.prog 24 0) (St.mk [AV.list (Ty.list (Ty.prod Ty.str (Ty.prod Ty.str Ty.str))) l_1147 Bool.false, AV.list (Ty.prod Ty.str (Ty.prod Ty.str Ty.str)) there_1148 Bool.false, jj, jj, jj, AV.view (0 : Nat) (0 : Nat) Option.none, AV.int IntKind.i64 (Prod.fst s_1202), jj, jj, jj, jj, jj, jj, jj, jj, jj, jj, jj, jj, jj, jj, jj, jj, jj, jj, jj, jj, jj, jj, jj, jj, jj, jj, jj, jj, jj, jj, jj, jj, jj, jj, jj, jj, jj, jj, jj, jj, jj, jj, jj, jj, jj, jj, jj, jj, jj, jj, jj, jj] [AO.row (Ty.int IntKind.i64) (Prod.snd s_1202)] (0 : Nat)))) ((0 : Int), [])) (by kernel_rfl) ?_
  refine W.loop (fun (s_1202 : Int × List Int) => (Cfg.mk Mode.run (headTodo Go.Proofs.Tryd.prog 24 0) (St.mk [AV.list (Ty.list (Ty.prod Ty.str (Ty.prod Ty.str Ty.str))) l_1147 Bool.false, AV.list (Ty.prod Ty.str (Ty.prod Ty.str Ty.str)) there_1148 Bool.false, jj, jj, jj, AV.view (0 : Nat) (0 : Nat) Option.none, AV.int IntKind.i64 (Prod.fst s_1202), jj, jj, jj, jj, jj, jj, jj, jj, jj, jj, jj, jj, jj, jj, jj, jj, jj, jj, jj, jj, jj, jj, jj, jj, jj, jj, jj, jj, jj, jj, jj, jj, jj, jj, jj, jj, jj, jj, jj, jj, jj, jj, jj, jj, jj, jj, jj, jj, jj, jj, jj, jj] [AO.row (Ty.int IntKind.i64) (Prod.snd s_1202)] (0 : Nat)))) (fun t_1195 => Walk Go.Proofs.Tryd.prog 24 (Cfg.mk Mode.run ((headTodo Go.Proofs.Tryd.prog 24 0).drop 3) (St.mk [jj, jj, jj, jj, jj, AV.view (0 : Nat) (0 : Nat) Option.none, jj, jj, jj, jj, jj, jj, jj, jj, jj, jj, jj, jj, jj, jj, jj, jj, jj, jj, jj, jj, jj, jj, jj, jj, jj, jj, jj, jj, jj, jj, jj, jj, jj, jj, jj, jj, jj, jj, jj, jj, jj, jj, jj, jj, jj, jj, jj, jj, jj, jj, jj, jj, jj] [AO.row (Ty.int IntKind.i64) t_1195] (0 : Nat))) (cellarerref07_Lacks_res r) (cellarerref07_Lacks_out r)) h (fun t_1195 h => ?_) (fun s_1202 x1197 h1197 K1197 => ?_)
  ·
    exact W.retT 0 100000 h (by kernel_rfl)
  · unfold cellarerref07_Lacks_b2 at h1197
    refine W.cond 2 100000 h1197 (by kernel_rfl) (fun h1197 => ?_) (fun h1197 => ?_)
    ·
      refine W.at 2 100000 [] [0, 1, 5, 6, 7, 8] (c' := (fun (s_1203 : Bool × Int) => (Cfg.mk Mode.run (headTodo Go.Proofs.Tryd.prog 24 1) (St.mk [AV.list (Ty.list (Ty.prod Ty.str (Ty.prod Ty.str Ty.str))) l_1147 Bool.false, AV.list (Ty.prod Ty.str (Ty.prod Ty.str Ty.str)) there_1148 Bool.false, jj, jj, jj, AV.view (0 : Nat) (0 : Nat) Option.none, AV.int IntKind.i64 (Prod.fst s_1202), AV.bool (Prod.fst s_1203), AV.int IntKind.i64 (Prod.snd s_1203), jj, jj, jj, jj, jj, jj, jj, jj, jj, jj, jj, jj, jj, jj, jj, jj, jj, jj, jj, jj, jj, jj, jj, jj, jj, jj, jj, jj, jj, jj, jj, jj, jj, jj, jj, jj, jj, jj, jj, jj, jj, jj, jj, jj, jj, jj, jj, jj, jj, jj] [AO.row (Ty.int IntKind.i64) (Prod.snd s_1202)] (0 : Nat)))) (Bool.false, (0 : Int))) (by kernel_rfl) ?_
      refine W.loop (fun (s_1203 : Bool × Int) => (Cfg.mk Mode.run (headTodo Go.Proofs.Tryd.prog 24 1) (St.mk [AV.list (Ty.list (Ty.prod Ty.str (Ty.prod Ty.str Ty.str))) l_1147 Bool.false, AV.list (Ty.prod Ty.str (Ty.prod Ty.str Ty.str)) there_1148 Bool.false, jj, jj, jj, AV.view (0 : Nat) (0 : Nat) Option.none, AV.int IntKind.i64 (Prod.fst s_1202), AV.bool (Prod.fst s_1203), AV.int IntKind.i64 (Prod.snd s_1203), jj, jj, jj, jj, jj, jj, jj, jj, jj, jj, jj, jj, jj, jj, jj, jj, jj, jj, jj, jj, jj, jj, jj, jj, jj, jj, jj, jj, jj, jj, jj, jj, jj, jj, jj, jj, jj, jj, jj, jj, jj, jj, jj, jj, jj, jj, jj, jj, jj, jj] [AO.row (Ty.int IntKind.i64) (Prod.snd s_1202)] (0 : Nat)))) (fun t_1192 => Walk Go.Proofs.Tryd.prog 24 (Cfg.mk Mode.run ((headTodo Go.Proofs.Tryd.prog 24 1).drop 3) (St.mk [AV.list (Ty.list (Ty.prod Ty.str (Ty.prod Ty.str Ty.str))) l_1147 Bool.false, AV.list (Ty.prod Ty.str (Ty.prod Ty.str Ty.str)) there_1148 Bool.false, jj, jj, jj, AV.view (0 : Nat) (0 : Nat) Option.none, AV.int IntKind.i64 (Prod.fst s_1202), AV.bool t_1192, jj, jj, jj, jj, jj, jj, jj, jj, jj, jj, jj, jj, jj, jj, jj, jj, jj, jj, jj, jj, jj, jj, jj, jj, jj, jj, jj, jj, jj, jj, jj, jj, jj, jj, jj, jj, jj, jj, jj, jj, jj, jj, jj, jj, jj, jj, jj, jj, jj, jj, jj] [AO.row (Ty.int IntKind.i64) (Prod.snd s_1202)] (0 : Nat))) (cellarerref07_Lacks_res r) (cellarerref07_Lacks_out r)) h1197 (fun t_1192 h1197 => ?_) (fun s_1203 x1194 h1194 K1194 => ?_)
      ·
        refine W.cond 2 100000 h1197 (by kernel_rfl) (fun h1197 => ?_) (fun h1197 => ?_)
        ·
          refine W.needT 2 100000 h1197 (by kernel_rfl) (fun h1197 => ?_)
          cases h1197; exact W.at 2 100000 [Co.own 5 (Ty.int IntKind.i64)] [0, 1, 5, 6] (by kernel_rfl) K1197
        ·
          cases h1197; exact W.at 2 100000 [Co.own 5 (Ty.int IntKind.i64)] [0, 1, 5, 6] (by kernel_rfl) K1197
      · unfold cellarerref07_Lacks_b1 at h1194
        refine W.needT 7 100000 h1194 (by kernel_rfl) (fun h1194 => ?_)
        refine W.cond 7 100000 h1194 (by kernel_rfl) (fun h1194 => ?_) (fun h1194 => ?_)
        ·
          refine W.at 7 100000 [] [0, 1, 5, 6, 7, 8, 9] (c' := (fun (s_1204 : Bool × Int) => (Cfg.mk Mode.run (headTodo Go.Proofs.Tryd.prog 24 2) (St.mk [AV.list (Ty.list (Ty.prod Ty.str (Ty.prod Ty.str Ty.str))) l_1147 Bool.false, AV.list (Ty.prod Ty.str (Ty.prod Ty.str Ty.str)) there_1148 Bool.false, jj, jj, jj, AV.view (0 : Nat) (0 : Nat) Option.none, AV.int IntKind.i64 (Prod.fst s_1202), AV.bool (Prod.fst s_1204), AV.int IntKind.i64 (Prod.snd s_1203), AV.int IntKind.i64 (Prod.snd s_1204), jj, jj, jj, jj, jj, jj, jj, jj, jj, jj, jj, jj, jj, jj, jj, jj, jj, jj, jj, jj, jj, jj, jj, jj, jj, jj, jj, jj, jj, jj, jj, jj, jj, jj, jj, jj, jj, jj, jj, jj, jj, jj, jj, jj, jj, jj, jj, jj, jj] [AO.row (Ty.int IntKind.i64) (Prod.snd s_1202)] (0 : Nat)))) (Prod.fst s_1203, (0 : Int))) (by kernel_rfl) ?_
          refine W.loop (fun (s_1204 : Bool × Int) => (Cfg.mk Mode.run (headTodo Go.Proofs.Tryd.prog 24 2) (St.mk [AV.list (Ty.list (Ty.prod Ty.str (Ty.prod Ty.str Ty.str))) l_1147 Bool.false, AV.list (Ty.prod Ty.str (Ty.prod Ty.str Ty.str)) there_1148 Bool.false, jj, jj, jj, AV.view (0 : Nat) (0 : Nat) Option.none, AV.int IntKind.i64 (Prod.fst s_1202), AV.bool (Prod.fst s_1204), AV.int IntKind.i64 (Prod.snd s_1203), AV.int IntKind.i64 (Prod.snd s_1204), jj, jj, jj, jj, jj, jj, jj, jj, jj, jj, jj, jj, jj, jj, jj, jj, jj, jj, jj, jj, jj, jj, jj, jj, jj, jj, jj, jj, jj, jj, jj, jj, jj, jj, jj, jj, jj, jj, jj, jj, jj, jj, jj, jj, jj, jj, jj, jj, jj] [AO.row (Ty.int IntKind.i64) (Prod.snd s_1202)] (0 : Nat)))) (fun t_1189 => Walk Go.Proofs.Tryd.prog 24 (Cfg.mk Mode.run ((headTodo Go.Proofs.Tryd.prog 24 2).drop 3) (St.mk [AV.list (Ty.list (Ty.prod Ty.str (Ty.prod Ty.str Ty.str))) l_1147 Bool.false, AV.list (Ty.prod Ty.str (Ty.prod Ty.str Ty.str)) there_1148 Bool.false, jj, jj, jj, AV.view (0 : Nat) (0 : Nat) Option.none, AV.int IntKind.i64 (Prod.fst s_1202), AV.bool t_1189, AV.int IntKind.i64 (Prod.snd s_1203), jj, jj, jj, jj, jj, jj, jj, jj, jj, jj, jj, jj, jj, jj, jj, jj, jj, jj, jj, jj, jj, jj, jj, jj, jj, jj, jj, jj, jj, jj, jj, jj, jj, jj, jj, jj, jj, jj, jj, jj, jj, jj, jj, jj, jj, jj, jj, jj, jj, jj] [AO.row (Ty.int IntKind.i64) (Prod.snd s_1202)] (0 : Nat))) (cellarerref07_Lacks_res r) (cellarerref07_Lacks_out r)) h1194 (fun t_1189 h1194 => ?_) (fun s_1204 x1191 h1191 K1191 => ?_)
          ·
            cases h1194; exact W.at 7 100000 [] [0, 1, 5, 6, 7, 8] (by kernel_rfl) K1194
          · unfold cellarerref07_Lacks_b0 at h1191
            refine W.cond 11 100000 h1191 (by kernel_rfl) (fun h1191 => ?_) (fun h1191 => ?_)
            ·
              refine W.cond 11 100000 h1191 (by kernel_rfl) (fun h1191 => ?_) (fun h1191 => ?_)
              ·
                refine W.yes 11 100000 (by kernel_rfl) ?_
                refine W.yes 11 100000 (by kernel_rfl) ?_
                refine W.yes 11 100000 (by kernel_rfl) ?_
                refine W.yes 11 100000 (by kernel_rfl) ?_
                refine W.yes 11 100000 (by kernel_rfl) ?_
                refine W.yes 11 100000 (by kernel_rfl) ?_
                refine W.yes 11 100000 (by kernel_rfl) ?_
                refine W.yes 11 100000 (by kernel_rfl) ?_
                refine W.yes 11 100000 (by kernel_rfl) ?_
                refine W.yes 11 100000 (by kernel_rfl) ?_
                refine W.yes 11 100000 (by kernel_rfl) ?_
                refine W.yes 11 100000 (by kernel_rfl) ?_
                refine W.yes 11 100000 (by kernel_rfl) ?_
                refine W.yes 11 100000 (by kernel_rfl) ?_
                refine W.yes 11 100000 (by kernel_rfl) ?_
                refine W.yes 11 100000 (by kernel_rfl) ?_
                refine W.yes 11 100000 (by kernel_rfl) ?_
                refine W.yes 11 100000 (by kernel_rfl) ?_
                cases h1191; exact W.at 11 100000 [] [0, 1, 5, 6, 7, 8, 9] (by kernel_rfl) K1191
              ·
                refine W.no 11 100000 (by kernel_rfl) ?_
                refine W.no 11 100000 (by kernel_rfl) ?_
                refine W.needT 11 100000 h1191 (by kernel_rfl) (fun h1191 => ?_)
                refine W.no 11 100000 (by kernel_rfl) ?_
                refine W.no 11 100000 (by kernel_rfl) ?_
                refine W.no 11 100000 (by kernel_rfl) ?_
                refine W.needT 11 100000 h1191 (by kernel_rfl) (fun h1191 => ?_)
                refine W.no 11 100000 (by kernel_rfl) ?_
                refine W.no 11 100000 (by kernel_rfl) ?_
                refine W.no 11 100000 (by kernel_rfl) ?_
                refine W.no 11 100000 (by kernel_rfl) ?_
                refine W.needT 11 100000 h1191 (by kernel_rfl) (fun h1191 => ?_)
                refine W.no 11 100000 (by kernel_rfl) ?_
                refine W.no 11 100000 (by kernel_rfl) ?_
                refine W.no 11 100000 (by kernel_rfl) ?_
                refine W.no 11 100000 (by kernel_rfl) ?_
                refine W.no 11 100000 (by kernel_rfl) ?_
                refine W.needT 11 100000 h1191 (by kernel_rfl) (fun h1191 => ?_)
                refine W.no 11 100000 (by kernel_rfl) ?_
                refine W.no 11 100000 (by kernel_rfl) ?_
                refine W.no 11 100000 (by kernel_rfl) ?_
                refine W.bind h1191 fun a_1187 ha_1187 h1191 => ?_
                refine W.call 11 100000 (by kernel_rfl) (cellarerref07_Fits_con ha_1187) (by kernel_rfl) ?_
                refine W.no 11 100000 (by kernel_rfl) ?_
                cases h1191; exact W.at 11 100000 [] [0, 1, 5, 6, 7, 8, 9] (by kernel_rfl) K1191
            ·
              cases h1191; exact W.at 11 100000 [] [0, 1, 5, 6, 7, 8] (by kernel_rfl) K1191
        ·
          cases h1194; exact W.at 7 100000 [] [0, 1, 5, 6, 7] (by kernel_rfl) K1194
    ·
      cases h1197; exact W.at 2 100000 [] [5] (by kernel_rfl) K1197

theorem cellarerlaw07_few_con {l_1206 : List (List (List UInt8 × List UInt8 × List UInt8))} {r : Bool} (h : cellarerlaw07_few l_1206 = some r) : Con Go.Proofs.Tryd.prog 8 [AV.list (Ty.list (Ty.prod Ty.str (Ty.prod Ty.str Ty.str))) l_1206 Bool.false] [] (cellarerlaw07_few_res r) (cellarerlaw07_few_out r) := by
  refine W.con (by kernel_rfl) ?_
  unfold cellarerlaw07_few at h
  refine W.cond 0 100000 h (by kernel_rfl) (fun h => ?_) (fun h => ?_)
  ·
    exact W.retT 0 100000 h (by kernel_rfl)
  ·
    refine W.at 0 100000 [] [0, 3, 4] (c' := (fun (s_1225 : Int × Int) => (Cfg.mk Mode.run (headTodo Go.Proofs.Tryd.prog 8 0) (St.mk [AV.list (Ty.list (Ty.prod Ty.str (Ty.prod Ty.str Ty.str))) l_1206 Bool.false, jj, jj, AV.int IntKind.i64 (Prod.fst s_1225), AV.int IntKind.i64 (Prod.snd s_1225), jj, jj, jj, jj, jj, jj, jj, jj, jj, jj, jj, jj, jj, jj, jj, jj, jj, jj, jj, jj, jj, jj, jj, jj, jj, jj, jj, jj, jj, jj, jj, jj, jj, jj, jj, jj, jj, jj, jj, jj, jj, jj, jj, jj, jj, jj, jj, jj, jj, jj, jj, jj] [] (0 : Nat)))) ((0 : Int), (0 : Int))) (by kernel_rfl) ?_
    refine W.loop (fun (s_1225 : Int × Int) => (Cfg.mk Mode.run (headTodo Go.Proofs.Tryd.prog 8 0) (St.mk [AV.list (Ty.list (Ty.prod Ty.str (Ty.prod Ty.str Ty.str))) l_1206 Bool.false, jj, jj, AV.int IntKind.i64 (Prod.fst s_1225), AV.int IntKind.i64 (Prod.snd s_1225), jj, jj, jj, jj, jj, jj, jj, jj, jj, jj, jj, jj, jj, jj, jj, jj, jj, jj, jj, jj, jj, jj, jj, jj, jj, jj, jj, jj, jj, jj, jj, jj, jj, jj, jj, jj, jj, jj, jj, jj, jj, jj, jj, jj, jj, jj, jj, jj, jj, jj, jj, jj] [] (0 : Nat)))) (fun t => (Sum.elim (fun t_1218 => r = (Bool.false)) (fun t_1219 => Walk Go.Proofs.Tryd.prog 8 (Cfg.mk Mode.run ((headTodo Go.Proofs.Tryd.prog 8 0).drop 3) (St.mk [jj, jj, jj, jj, jj, jj, jj, jj, jj, jj, jj, jj, jj, jj, jj, jj, jj, jj, jj, jj, jj, jj, jj, jj, jj, jj, jj, jj, jj, jj, jj, jj, jj, jj, jj, jj, jj, jj, jj, jj, jj, jj, jj, jj, jj, jj, jj, jj, jj, jj, jj, jj, jj, jj, jj, jj, jj] [] (0 : Nat))) (cellarerlaw07_few_res r) (cellarerlaw07_few_out r))) t) h (fun t h => ?_) (fun s_1225 x1221 h1221 K1221 => ?_)
    ·
      rcases t with t_1218 | t_1219
      · replace h := W.inl (h)
        refine W.elimL (?_)
        exact (Option.some.inj h).symm
      · replace h := W.inr (h)
        refine W.elimR (?_)
        exact W.retT 0 100000 h (by kernel_rfl)
    · unfold cellarerlaw07_few_b1 at h1221
      refine W.cond 2 100000 h1221 (by kernel_rfl) (fun h1221 => ?_) (fun h1221 => ?_)
      ·
        refine W.needT 2 100000 h1221 (by kernel_rfl) (fun h1221 => ?_)
        refine W.cond 2 100000 h1221 (by kernel_rfl) (fun h1221 => ?_) (fun h1221 => ?_)
        ·
          cases h1221; exact W.retK 2 100000 K1221 (by kernel_rfl)
        ·
          refine W.at 2 100000 [] [0, 3, 4, 5] (c' := (fun (s_1226 : Int × Int) => (Cfg.mk Mode.run (headTodo Go.Proofs.Tryd.prog 8 1) (St.mk [AV.list (Ty.list (Ty.prod Ty.str (Ty.prod Ty.str Ty.str))) l_1206 Bool.false, jj, jj, AV.int IntKind.i64 (Prod.fst s_1226), AV.int IntKind.i64 (Prod.snd s_1225), AV.int IntKind.i64 (Prod.snd s_1226), jj, jj, jj, jj, jj, jj, jj, jj, jj, jj, jj, jj, jj, jj, jj, jj, jj, jj, jj, jj, jj, jj, jj, jj, jj, jj, jj, jj, jj, jj, jj, jj, jj, jj, jj, jj, jj, jj, jj, jj, jj, jj, jj, jj, jj, jj, jj, jj, jj, jj, jj] [] (0 : Nat)))) (Prod.fst s_1225, (0 : Int))) (by kernel_rfl) ?_
          refine W.loop (fun (s_1226 : Int × Int) => (Cfg.mk Mode.run (headTodo Go.Proofs.Tryd.prog 8 1) (St.mk [AV.list (Ty.list (Ty.prod Ty.str (Ty.prod Ty.str Ty.str))) l_1206 Bool.false, jj, jj, AV.int IntKind.i64 (Prod.fst s_1226), AV.int IntKind.i64 (Prod.snd s_1225), AV.int IntKind.i64 (Prod.snd s_1226), jj, jj, jj, jj, jj, jj, jj, jj, jj, jj, jj, jj, jj, jj, jj, jj, jj, jj, jj, jj, jj, jj, jj, jj, jj, jj, jj, jj, jj, jj, jj, jj, jj, jj, jj, jj, jj, jj, jj, jj, jj, jj, jj, jj, jj, jj, jj, jj, jj, jj, jj] [] (0 : Nat)))) (fun t => (Sum.elim (fun t_1214 => r = (Bool.false)) (fun t_1216 => Walk Go.Proofs.Tryd.prog 8 (Cfg.mk Mode.run ((headTodo Go.Proofs.Tryd.prog 8 1).drop 3) (St.mk [AV.list (Ty.list (Ty.prod Ty.str (Ty.prod Ty.str Ty.str))) l_1206 Bool.false, jj, jj, AV.int IntKind.i64 t_1216, AV.int IntKind.i64 (Prod.snd s_1225), jj, jj, jj, jj, jj, jj, jj, jj, jj, jj, jj, jj, jj, jj, jj, jj, jj, jj, jj, jj, jj, jj, jj, jj, jj, jj, jj, jj, jj, jj, jj, jj, jj, jj, jj, jj, jj, jj, jj, jj, jj, jj, jj, jj, jj, jj, jj, jj, jj, jj, jj, jj] [] (0 : Nat))) (cellarerlaw07_few_res r) (cellarerlaw07_few_out r))) t) h1221 (fun t h1221 => ?_) (fun s_1226 x1218 h1218 K1218 => ?_)
          ·
            rcases t with t_1214 | t_1216
            · replace h1221 := W.inl (h1221)
              refine W.elimL (?_)
              cases h1221; exact K1221
            · replace h1221 := W.inr (h1221)
              refine W.elimR (?_)
              cases h1221; exact W.at 2 100000 [] [0, 3, 4] (by kernel_rfl) K1221
          · unfold cellarerlaw07_few_b0 at h1218
            refine W.needT 6 100000 h1218 (by kernel_rfl) (fun h1218 => ?_)
            refine W.cond 6 100000 h1218 (by kernel_rfl) (fun h1218 => ?_) (fun h1218 => ?_)
            ·
              refine W.needT 6 100000 h1218 (by kernel_rfl) (fun h1218 => ?_)
              refine W.needT 6 100000 h1218 (by kernel_rfl) (fun h1218 => ?_)
              refine W.cond 6 100000 h1218 (by kernel_rfl) (fun h1218 => ?_) (fun h1218 => ?_)
              ·
                cases h1218; exact W.retK 6 100000 K1218 (by kernel_rfl)
              ·
                cases h1218; exact W.at 6 100000 [] [0, 3, 4, 5] (by kernel_rfl) K1218
            ·
              cases h1218; exact W.at 6 100000 [] [0, 3, 4] (by kernel_rfl) K1218
      ·
        cases h1221; exact W.at 2 100000 [] [] (by kernel_rfl) K1221

theorem cellarerlaw07_awake_con  {r : Bool} (h : cellarerlaw07_awake  = some r) : Con Go.Proofs.Tryd.prog 9 [] [] (cellarerlaw07_awake_res r) (cellarerlaw07_awake_out r) := by
  refine W.con (by kernel_rfl) ?_
  unfold cellarerlaw07_awake at h
  refine W.bind h fun a_1227 ha_1227 h => ?_
  refine W.call 0 100000 (by kernel_rfl) (relation_ParseAll_con ha_1227) (by kernel_rfl) ?_
  refine W.bind h fun a_1228 ha_1228 h => ?_
  refine W.call 0 100000 (by kernel_rfl) (relation_All_con ha_1228) (by kernel_rfl) ?_
  refine W.cond 0 100000 h (by kernel_rfl) (fun h => ?_) (fun h => ?_)
  ·
    refine W.yes 0 100000 (by kernel_rfl) ?_
    refine W.yes 0 100000 (by kernel_rfl) ?_
    refine W.cond 0 100000 h (by kernel_rfl) (fun h => ?_) (fun h => ?_)
    ·
      refine W.yes 0 100000 (by kernel_rfl) ?_
      refine W.yes 0 100000 (by kernel_rfl) ?_
      refine W.yes 0 100000 (by kernel_rfl) ?_
      refine W.cond 0 100000 h (by kernel_rfl) (fun h => ?_) (fun h => ?_)
      ·
        refine W.yes 0 100000 (by kernel_rfl) ?_
        refine W.needT 0 100000 h (by kernel_rfl) (fun h => ?_)
        refine W.yes 0 100000 (by kernel_rfl) ?_
        refine W.needT 0 100000 h (by kernel_rfl) (fun h => ?_)
        refine W.yes 0 100000 (by kernel_rfl) ?_
        refine W.yes 0 100000 (by kernel_rfl) ?_
        refine W.yes 0 100000 (by kernel_rfl) ?_
        refine W.cond 0 100000 h (by kernel_rfl) (fun h => ?_) (fun h => ?_)
        ·
          refine W.yes 0 100000 (by kernel_rfl) ?_
          refine W.yes 0 100000 (by kernel_rfl) ?_
          refine W.cond 0 100000 h (by kernel_rfl) (fun h => ?_) (fun h => ?_)
          ·
            refine W.yes 0 100000 (by kernel_rfl) ?_
            refine W.needT 0 100000 h (by kernel_rfl) (fun h => ?_)
            refine W.yes 0 100000 (by kernel_rfl) ?_
            refine W.needT 0 100000 h (by kernel_rfl) (fun h => ?_)
            refine W.yes 0 100000 (by kernel_rfl) ?_
            refine W.needT 0 100000 h (by kernel_rfl) (fun h => ?_)
            refine W.yes 0 100000 (by kernel_rfl) ?_
            refine W.yes 0 100000 (by kernel_rfl) ?_
            refine W.bind h fun a_1229 ha_1229 h => ?_
            refine W.call 0 100000 (by kernel_rfl) (relation_Right_con ha_1229) (by kernel_rfl) ?_
            refine W.yes 0 100000 (by kernel_rfl) ?_
            refine W.cond 0 100000 h (by kernel_rfl) (fun h => ?_) (fun h => ?_)
            ·
              refine W.yes 0 100000 (by kernel_rfl) ?_
              refine W.yes 0 100000 (by kernel_rfl) ?_
              refine W.yes 0 100000 (by kernel_rfl) ?_
              refine W.bind h fun a_1230 ha_1230 h => ?_
              refine W.call 0 100000 (by kernel_rfl) (relation_Lacks_con ha_1230) (by kernel_rfl) ?_
              refine W.yes 0 100000 (by kernel_rfl) ?_
              refine W.yes 0 100000 (by kernel_rfl) ?_
              refine W.yes 0 100000 (by kernel_rfl) ?_
              exact W.retT 0 100000 h (by kernel_rfl)
            ·
              refine W.no 0 100000 (by kernel_rfl) ?_
              refine W.no 0 100000 (by kernel_rfl) ?_
              refine W.no 0 100000 (by kernel_rfl) ?_
              refine W.no 0 100000 (by kernel_rfl) ?_
              refine W.no 0 100000 (by kernel_rfl) ?_
              refine W.no 0 100000 (by kernel_rfl) ?_
              exact W.retT 0 100000 h (by kernel_rfl)
          ·
            refine W.no 0 100000 (by kernel_rfl) ?_
            refine W.no 0 100000 (by kernel_rfl) ?_
            refine W.no 0 100000 (by kernel_rfl) ?_
            refine W.no 0 100000 (by kernel_rfl) ?_
            refine W.no 0 100000 (by kernel_rfl) ?_
            refine W.no 0 100000 (by kernel_rfl) ?_
            refine W.no 0 100000 (by kernel_rfl) ?_
            refine W.no 0 100000 (by kernel_rfl) ?_
            refine W.no 0 100000 (by kernel_rfl) ?_
            refine W.no 0 100000 (by kernel_rfl) ?_
            refine W.no 0 100000 (by kernel_rfl) ?_
            refine W.no 0 100000 (by kernel_rfl) ?_
            refine W.no 0 100000 (by kernel_rfl) ?_
            exact W.retT 0 100000 h (by kernel_rfl)
        ·
          refine W.no 0 100000 (by kernel_rfl) ?_
          refine W.no 0 100000 (by kernel_rfl) ?_
          refine W.no 0 100000 (by kernel_rfl) ?_
          refine W.no 0 100000 (by kernel_rfl) ?_
          refine W.no 0 100000 (by kernel_rfl) ?_
          refine W.no 0 100000 (by kernel_rfl) ?_
          refine W.no 0 100000 (by kernel_rfl) ?_
          refine W.no 0 100000 (by kernel_rfl) ?_
          refine W.no 0 100000 (by kernel_rfl) ?_
          refine W.no 0 100000 (by kernel_rfl) ?_
          refine W.no 0 100000 (by kernel_rfl) ?_
          refine W.no 0 100000 (by kernel_rfl) ?_
          refine W.no 0 100000 (by kernel_rfl) ?_
          refine W.no 0 100000 (by kernel_rfl) ?_
          refine W.no 0 100000 (by kernel_rfl) ?_
          refine W.no 0 100000 (by kernel_rfl) ?_
          exact W.retT 0 100000 h (by kernel_rfl)
      ·
        refine W.no 0 100000 (by kernel_rfl) ?_
        refine W.no 0 100000 (by kernel_rfl) ?_
        refine W.no 0 100000 (by kernel_rfl) ?_
        refine W.no 0 100000 (by kernel_rfl) ?_
        refine W.no 0 100000 (by kernel_rfl) ?_
        refine W.no 0 100000 (by kernel_rfl) ?_
        refine W.no 0 100000 (by kernel_rfl) ?_
        refine W.no 0 100000 (by kernel_rfl) ?_
        refine W.no 0 100000 (by kernel_rfl) ?_
        refine W.no 0 100000 (by kernel_rfl) ?_
        refine W.no 0 100000 (by kernel_rfl) ?_
        refine W.no 0 100000 (by kernel_rfl) ?_
        refine W.no 0 100000 (by kernel_rfl) ?_
        refine W.no 0 100000 (by kernel_rfl) ?_
        refine W.no 0 100000 (by kernel_rfl) ?_
        refine W.no 0 100000 (by kernel_rfl) ?_
        refine W.no 0 100000 (by kernel_rfl) ?_
        refine W.no 0 100000 (by kernel_rfl) ?_
        refine W.no 0 100000 (by kernel_rfl) ?_
        refine W.no 0 100000 (by kernel_rfl) ?_
        refine W.no 0 100000 (by kernel_rfl) ?_
        refine W.no 0 100000 (by kernel_rfl) ?_
        exact W.retT 0 100000 h (by kernel_rfl)
    ·
      refine W.no 0 100000 (by kernel_rfl) ?_
      refine W.no 0 100000 (by kernel_rfl) ?_
      refine W.no 0 100000 (by kernel_rfl) ?_
      refine W.no 0 100000 (by kernel_rfl) ?_
      refine W.no 0 100000 (by kernel_rfl) ?_
      refine W.no 0 100000 (by kernel_rfl) ?_
      refine W.no 0 100000 (by kernel_rfl) ?_
      refine W.no 0 100000 (by kernel_rfl) ?_
      refine W.no 0 100000 (by kernel_rfl) ?_
      refine W.no 0 100000 (by kernel_rfl) ?_
      refine W.no 0 100000 (by kernel_rfl) ?_
      refine W.no 0 100000 (by kernel_rfl) ?_
      refine W.no 0 100000 (by kernel_rfl) ?_
      refine W.no 0 100000 (by kernel_rfl) ?_
      refine W.no 0 100000 (by kernel_rfl) ?_
      refine W.no 0 100000 (by kernel_rfl) ?_
      refine W.no 0 100000 (by kernel_rfl) ?_
      refine W.no 0 100000 (by kernel_rfl) ?_
      refine W.no 0 100000 (by kernel_rfl) ?_
      refine W.no 0 100000 (by kernel_rfl) ?_
      refine W.no 0 100000 (by kernel_rfl) ?_
      refine W.no 0 100000 (by kernel_rfl) ?_
      refine W.no 0 100000 (by kernel_rfl) ?_
      refine W.no 0 100000 (by kernel_rfl) ?_
      refine W.no 0 100000 (by kernel_rfl) ?_
      refine W.no 0 100000 (by kernel_rfl) ?_
      exact W.retT 0 100000 h (by kernel_rfl)
  ·
    refine W.no 0 100000 (by kernel_rfl) ?_
    refine W.no 0 100000 (by kernel_rfl) ?_
    refine W.no 0 100000 (by kernel_rfl) ?_
    refine W.no 0 100000 (by kernel_rfl) ?_
    refine W.no 0 100000 (by kernel_rfl) ?_
    refine W.no 0 100000 (by kernel_rfl) ?_
    refine W.no 0 100000 (by kernel_rfl) ?_
    refine W.no 0 100000 (by kernel_rfl) ?_
    refine W.no 0 100000 (by kernel_rfl) ?_
    refine W.no 0 100000 (by kernel_rfl) ?_
    refine W.no 0 100000 (by kernel_rfl) ?_
    refine W.no 0 100000 (by kernel_rfl) ?_
    refine W.no 0 100000 (by kernel_rfl) ?_
    refine W.no 0 100000 (by kernel_rfl) ?_
    refine W.no 0 100000 (by kernel_rfl) ?_
    refine W.no 0 100000 (by kernel_rfl) ?_
    refine W.no 0 100000 (by kernel_rfl) ?_
    refine W.no 0 100000 (by kernel_rfl) ?_
    refine W.no 0 100000 (by kernel_rfl) ?_
    refine W.no 0 100000 (by kernel_rfl) ?_
    refine W.no 0 100000 (by kernel_rfl) ?_
    refine W.no 0 100000 (by kernel_rfl) ?_
    refine W.no 0 100000 (by kernel_rfl) ?_
    refine W.no 0 100000 (by kernel_rfl) ?_
    refine W.no 0 100000 (by kernel_rfl) ?_
    refine W.no 0 100000 (by kernel_rfl) ?_
    refine W.no 0 100000 (by kernel_rfl) ?_
    refine W.no 0 100000 (by kernel_rfl) ?_
    refine W.no 0 100000 (by kernel_rfl) ?_
    exact W.retT 0 100000 h (by kernel_rfl)

theorem cellarerlaw07_RelationTexts_con {x_1235 : List UInt8} {x_1236 : List UInt8} {x_1237 : List UInt8} {s_1238 : List UInt8} {r : Bool} (h : cellarerlaw07_RelationTexts x_1235 x_1236 x_1237 s_1238 = some r) : Con Go.Proofs.Tryd.prog 3 [AV.agg [AV.str x_1235, AV.str x_1236, AV.str x_1237], AV.str s_1238] [] (cellarerlaw07_RelationTexts_res r) (cellarerlaw07_RelationTexts_out r) := by
  refine W.con (by kernel_rfl) ?_
  unfold cellarerlaw07_RelationTexts at h
  refine W.join (fun t => (Sum.elim (fun t_1243 => r = (t_1243)) (fun t_1244 => Walk Go.Proofs.Tryd.prog 3 (Cfg.mk Mode.run (seqTodo Go.Proofs.Tryd.prog 3 1) (St.mk [jj, AV.str s_1238, AV.ptr (0 : Nat) (0 : Nat), jj, jj, jj, jj, jj, jj, jj, jj, jj, jj, jj, jj, jj, jj, jj, jj, jj, jj, jj, jj, jj, jj, jj, jj, jj, jj, jj, jj, jj, jj, jj, jj, jj, jj, jj, jj, jj, jj, jj, jj, jj, jj, jj, jj, jj, jj, jj, jj, jj, jj, jj, jj, jj, jj, jj, jj, jj, jj, jj, jj, jj, jj, jj, jj, jj, jj, jj, jj, jj, jj, jj, jj, jj, jj, jj, jj, jj, jj, jj, jj, jj, jj, jj] [AO.box [AV.str x_1235, AV.str x_1236, AV.str x_1237]] (0 : Nat))) (cellarerlaw07_RelationTexts_res r) (cellarerlaw07_RelationTexts_out r))) t) h (fun t h => ?_) (fun t1265 h1265 K1265 => ?_)
  ·
    rcases t with t_1243 | t_1244
    · replace h := W.inl (h)
      refine W.elimL (?_)
      exact (Option.some.inj h).symm
    · replace h := W.inr (h)
      refine W.elimR (?_)
      refine W.bind h fun a_1245 ha_1245 h => ?_
      refine W.call 0 100000 (by kernel_rfl) (relation_Parse_con ha_1245) (by kernel_rfl) ?_
      refine W.bind h fun a_1246 ha_1246 h => ?_
      refine W.call 0 100000 (by kernel_rfl) (cellarerref07_Parse_con ha_1246) (by kernel_rfl) ?_
      refine W.join (fun t => (Sum.elim (fun t_1252 => r = (Bool.false)) (fun t_1253 => Walk Go.Proofs.Tryd.prog 3 (Cfg.mk Mode.run (seqTodo Go.Proofs.Tryd.prog 3 6) (St.mk [jj, AV.str s_1238, AV.ptr (0 : Nat) (0 : Nat), jj, jj, AV.ptr (1 : Nat) (0 : Nat), jj, jj, AV.bool (Prod.snd (Prod.snd (Prod.snd a_1246))), jj, jj, jj, jj, jj, jj, jj, jj, jj, jj, jj, jj, jj, jj, jj, jj, jj, jj, jj, jj, jj, jj, jj, jj, jj, jj, jj, jj, jj, jj, jj, jj, jj, jj, jj, jj, jj, jj, jj, jj, jj, jj, jj, jj, jj, jj, jj, jj, jj, jj, jj, jj, jj, jj, jj, jj, jj, jj, jj, jj, jj, jj, jj, jj, jj, jj, jj, jj, jj, jj, jj, jj, jj, jj, jj, jj, jj] [AO.box [AV.str x_1235, AV.str x_1236, AV.str x_1237], AO.box [AV.str (Prod.fst a_1245), AV.str (Prod.fst (Prod.snd a_1245)), AV.str (Prod.fst (Prod.snd (Prod.snd a_1245)))]] (0 : Nat))) (cellarerlaw07_RelationTexts_res r) (cellarerlaw07_RelationTexts_out r))) t) h (fun t h => ?_) (fun t1264 h1264 K1264 => ?_)
      ·
        rcases t with t_1252 | t_1253
        · replace h := W.inl (h)
          refine W.elimL (?_)
          exact (Option.some.inj h).symm
        · replace h := W.inr (h)
          refine W.elimR (?_)
          refine W.bind h fun a_1254 ha_1254 h => ?_
          refine W.call 0 100000 (by kernel_rfl) (relation_Text_con ha_1254) (by kernel_rfl) ?_
          refine W.bind h fun a_1255 ha_1255 h => ?_
          refine W.call 0 100000 (by kernel_rfl) (relation_Parse_con ha_1255) (by kernel_rfl) ?_
          refine W.bind h fun a_1256 ha_1256 h => ?_
          refine W.call 0 100000 (by kernel_rfl) (relation_Right_con ha_1256) (by kernel_rfl) ?_
          refine W.cond 0 100000 h (by kernel_rfl) (fun h => ?_) (fun h => ?_)
          ·
            refine W.yes 0 100000 (by kernel_rfl) ?_
            refine W.yes 0 100000 (by kernel_rfl) ?_
            refine W.yes 0 100000 (by kernel_rfl) ?_
            refine W.yes 0 100000 (by kernel_rfl) ?_
            refine W.yes 0 100000 (by kernel_rfl) ?_
            refine W.yes 0 100000 (by kernel_rfl) ?_
            refine W.yes 0 100000 (by kernel_rfl) ?_
            refine W.cond 0 100000 h (by kernel_rfl) (fun h => ?_) (fun h => ?_)
            ·
              refine W.yes 0 100000 (by kernel_rfl) ?_
              refine W.yes 0 100000 (by kernel_rfl) ?_
              refine W.yes 0 100000 (by kernel_rfl) ?_
              refine W.yes 0 100000 (by kernel_rfl) ?_
              refine W.yes 0 100000 (by kernel_rfl) ?_
              refine W.yes 0 100000 (by kernel_rfl) ?_
              refine W.yes 0 100000 (by kernel_rfl) ?_
              refine W.bind h fun a_1257 ha_1257 h => ?_
              refine W.call 0 100000 (by kernel_rfl) (cellarerlaw07_awake_con ha_1257) (by kernel_rfl) ?_
              refine W.yes 0 100000 (by kernel_rfl) ?_
              exact W.retT 0 100000 h (by kernel_rfl)
            ·
              refine W.no 0 100000 (by kernel_rfl) ?_
              refine W.bind h fun a_1258 ha_1258 h => ?_
              refine W.call 0 100000 (by kernel_rfl) (relation_Text_con ha_1258) (by kernel_rfl) ?_
              refine W.no 0 100000 (by kernel_rfl) ?_
              refine W.no 0 100000 (by kernel_rfl) ?_
              refine W.yes 0 100000 (by kernel_rfl) ?_
              refine W.no 0 100000 (by kernel_rfl) ?_
              refine W.yes 0 100000 (by kernel_rfl) ?_
              refine W.cond 0 100000 h (by kernel_rfl) (fun h => ?_) (fun h => ?_)
              ·
                refine W.bind h fun a_1259 ha_1259 h => ?_
                refine W.call 0 100000 (by kernel_rfl) (cellarerlaw07_awake_con ha_1259) (by kernel_rfl) ?_
                refine W.yes 0 100000 (by kernel_rfl) ?_
                exact W.retT 0 100000 h (by kernel_rfl)
              ·
                refine W.no 0 100000 (by kernel_rfl) ?_
                exact W.retT 0 100000 h (by kernel_rfl)
          ·
            refine W.no 0 100000 (by kernel_rfl) ?_
            refine W.no 0 100000 (by kernel_rfl) ?_
            refine W.cond 0 100000 h (by kernel_rfl) (fun h => ?_) (fun h => ?_)
            ·
              refine W.yes 0 100000 (by kernel_rfl) ?_
              refine W.yes 0 100000 (by kernel_rfl) ?_
              refine W.no 0 100000 (by kernel_rfl) ?_
              refine W.yes 0 100000 (by kernel_rfl) ?_
              refine W.no 0 100000 (by kernel_rfl) ?_
              refine W.cond 0 100000 h (by kernel_rfl) (fun h => ?_) (fun h => ?_)
              ·
                refine W.yes 0 100000 (by kernel_rfl) ?_
                refine W.yes 0 100000 (by kernel_rfl) ?_
                refine W.cond 0 100000 h (by kernel_rfl) (fun h => ?_) (fun h => ?_)
                ·
                  refine W.yes 0 100000 (by kernel_rfl) ?_
                  refine W.yes 0 100000 (by kernel_rfl) ?_
                  refine W.yes 0 100000 (by kernel_rfl) ?_
                  refine W.yes 0 100000 (by kernel_rfl) ?_
                  refine W.yes 0 100000 (by kernel_rfl) ?_
                  refine W.yes 0 100000 (by kernel_rfl) ?_
                  refine W.yes 0 100000 (by kernel_rfl) ?_
                  refine W.bind h fun a_1260 ha_1260 h => ?_
                  refine W.call 0 100000 (by kernel_rfl) (cellarerlaw07_awake_con ha_1260) (by kernel_rfl) ?_
                  refine W.yes 0 100000 (by kernel_rfl) ?_
                  exact W.retT 0 100000 h (by kernel_rfl)
                ·
                  refine W.no 0 100000 (by kernel_rfl) ?_
                  refine W.bind h fun a_1261 ha_1261 h => ?_
                  refine W.call 0 100000 (by kernel_rfl) (relation_Text_con ha_1261) (by kernel_rfl) ?_
                  refine W.no 0 100000 (by kernel_rfl) ?_
                  refine W.no 0 100000 (by kernel_rfl) ?_
                  refine W.yes 0 100000 (by kernel_rfl) ?_
                  refine W.no 0 100000 (by kernel_rfl) ?_
                  refine W.yes 0 100000 (by kernel_rfl) ?_
                  refine W.cond 0 100000 h (by kernel_rfl) (fun h => ?_) (fun h => ?_)
                  ·
                    refine W.bind h fun a_1262 ha_1262 h => ?_
                    refine W.call 0 100000 (by kernel_rfl) (cellarerlaw07_awake_con ha_1262) (by kernel_rfl) ?_
                    refine W.yes 0 100000 (by kernel_rfl) ?_
                    exact W.retT 0 100000 h (by kernel_rfl)
                  ·
                    refine W.no 0 100000 (by kernel_rfl) ?_
                    exact W.retT 0 100000 h (by kernel_rfl)
              ·
                refine W.no 0 100000 (by kernel_rfl) ?_
                refine W.no 0 100000 (by kernel_rfl) ?_
                refine W.no 0 100000 (by kernel_rfl) ?_
                refine W.no 0 100000 (by kernel_rfl) ?_
                refine W.no 0 100000 (by kernel_rfl) ?_
                refine W.no 0 100000 (by kernel_rfl) ?_
                exact W.retT 0 100000 h (by kernel_rfl)
            ·
              refine W.no 0 100000 (by kernel_rfl) ?_
              refine W.no 0 100000 (by kernel_rfl) ?_
              refine W.no 0 100000 (by kernel_rfl) ?_
              refine W.no 0 100000 (by kernel_rfl) ?_
              refine W.no 0 100000 (by kernel_rfl) ?_
              refine W.no 0 100000 (by kernel_rfl) ?_
              refine W.no 0 100000 (by kernel_rfl) ?_
              refine W.no 0 100000 (by kernel_rfl) ?_
              refine W.no 0 100000 (by kernel_rfl) ?_
              refine W.no 0 100000 (by kernel_rfl) ?_
              refine W.no 0 100000 (by kernel_rfl) ?_
              refine W.no 0 100000 (by kernel_rfl) ?_
              exact W.retT 0 100000 h (by kernel_rfl)
      · refine W.next 0 8 (by kernel_rfl) ?_
        refine W.cond 1 100000 h1264 (by kernel_rfl) (fun h1264 => ?_) (fun h1264 => ?_)
        ·
          refine W.yes 1 100000 (by kernel_rfl) ?_
          refine W.yes 1 100000 (by kernel_rfl) ?_
          refine W.yes 1 100000 (by kernel_rfl) ?_
          refine W.yes 1 100000 (by kernel_rfl) ?_
          refine W.yes 1 100000 (by kernel_rfl) ?_
          refine W.yes 1 100000 (by kernel_rfl) ?_
          refine W.yes 1 100000 (by kernel_rfl) ?_
          refine W.yes 1 100000 (by kernel_rfl) ?_
          refine W.yes 1 100000 (by kernel_rfl) ?_
          refine W.yes 1 100000 (by kernel_rfl) ?_
          refine W.yes 1 100000 (by kernel_rfl) ?_
          refine W.yes 1 100000 (by kernel_rfl) ?_
          refine W.yes 1 100000 (by kernel_rfl) ?_
          refine W.yes 1 100000 (by kernel_rfl) ?_
          refine W.yes 1 100000 (by kernel_rfl) ?_
          refine W.yes 1 100000 (by kernel_rfl) ?_
          refine W.yes 1 100000 (by kernel_rfl) ?_
          cases h1264; exact W.retK 1 100000 K1264 (by kernel_rfl)
        ·
          refine W.no 1 100000 (by kernel_rfl) ?_
          refine W.no 1 100000 (by kernel_rfl) ?_
          refine W.bind h1264 fun a_1247 ha_1247 h1264 => ?_
          refine W.call 1 100000 (by kernel_rfl) (cellarerlaw07_is_con ha_1247) (by kernel_rfl) ?_
          refine W.no 1 100000 (by kernel_rfl) ?_
          refine W.no 1 100000 (by kernel_rfl) ?_
          refine W.cond 1 100000 h1264 (by kernel_rfl) (fun h1264 => ?_) (fun h1264 => ?_)
          ·
            refine W.yes 1 100000 (by kernel_rfl) ?_
            refine W.yes 1 100000 (by kernel_rfl) ?_
            refine W.yes 1 100000 (by kernel_rfl) ?_
            refine W.yes 1 100000 (by kernel_rfl) ?_
            refine W.yes 1 100000 (by kernel_rfl) ?_
            refine W.yes 1 100000 (by kernel_rfl) ?_
            refine W.yes 1 100000 (by kernel_rfl) ?_
            refine W.yes 1 100000 (by kernel_rfl) ?_
            refine W.yes 1 100000 (by kernel_rfl) ?_
            refine W.yes 1 100000 (by kernel_rfl) ?_
            refine W.yes 1 100000 (by kernel_rfl) ?_
            refine W.yes 1 100000 (by kernel_rfl) ?_
            cases h1264; exact W.retK 1 100000 K1264 (by kernel_rfl)
          ·
            refine W.no 1 100000 (by kernel_rfl) ?_
            refine W.bind h1264 fun a_1248 ha_1248 h1264 => ?_
            refine W.call 1 100000 (by kernel_rfl) (relation_Right_con ha_1248) (by kernel_rfl) ?_
            refine W.no 1 100000 (by kernel_rfl) ?_
            refine W.no 1 100000 (by kernel_rfl) ?_
            refine W.bind h1264 fun a_1249 ha_1249 h1264 => ?_
            refine W.call 1 100000 (by kernel_rfl) (cellarerref07_Right_con ha_1249) (by kernel_rfl) ?_
            refine W.no 1 100000 (by kernel_rfl) ?_
            refine W.no 1 100000 (by kernel_rfl) ?_
            refine W.cond 1 100000 h1264 (by kernel_rfl) (fun h1264 => ?_) (fun h1264 => ?_)
            ·
              refine W.yes 1 100000 (by kernel_rfl) ?_
              refine W.yes 1 100000 (by kernel_rfl) ?_
              refine W.yes 1 100000 (by kernel_rfl) ?_
              refine W.yes 1 100000 (by kernel_rfl) ?_
              refine W.yes 1 100000 (by kernel_rfl) ?_
              refine W.yes 1 100000 (by kernel_rfl) ?_
              cases h1264; exact W.retK 1 100000 K1264 (by kernel_rfl)
            ·
              refine W.no 1 100000 (by kernel_rfl) ?_
              refine W.bind h1264 fun a_1250 ha_1250 h1264 => ?_
              refine W.call 1 100000 (by kernel_rfl) (relation_Text_con ha_1250) (by kernel_rfl) ?_
              refine W.no 1 100000 (by kernel_rfl) ?_
              refine W.no 1 100000 (by kernel_rfl) ?_
              refine W.bind h1264 fun a_1251 ha_1251 h1264 => ?_
              refine W.call 1 100000 (by kernel_rfl) (cellarerref07_Text_con ha_1251) (by kernel_rfl) ?_
              refine W.no 1 100000 (by kernel_rfl) ?_
              refine W.no 1 100000 (by kernel_rfl) ?_
              refine W.cond 1 100000 h1264 (by kernel_rfl) (fun h1264 => ?_) (fun h1264 => ?_)
              ·
                cases h1264; exact W.retK 1 100000 K1264 (by kernel_rfl)
              ·
                cases h1264; exact W.at 1 100000 [] [1, 2, 5, 8] (by kernel_rfl) K1264
  · refine W.next 0 6 (by kernel_rfl) ?_
    refine W.bind h1265 fun a_1239 ha_1239 h1265 => ?_
    refine W.call 1 100000 (by kernel_rfl) (cellarerlaw07_few_con ha_1239) (by kernel_rfl) ?_
    refine W.cond 1 100000 h1265 (by kernel_rfl) (fun h1265 => ?_) (fun h1265 => ?_)
    ·
      refine W.yes 1 100000 (by kernel_rfl) ?_
      refine W.yes 1 100000 (by kernel_rfl) ?_
      refine W.yes 1 100000 (by kernel_rfl) ?_
      refine W.yes 1 100000 (by kernel_rfl) ?_
      refine W.bind h1265 fun a_1240 ha_1240 h1265 => ?_
      refine W.call 1 100000 (by kernel_rfl) (cellarerlaw07_awake_con ha_1240) (by kernel_rfl) ?_
      cases h1265; exact W.retK 1 100000 K1265 (by kernel_rfl)
    ·
      refine W.no 1 100000 (by kernel_rfl) ?_
      refine W.no 1 100000 (by kernel_rfl) ?_
      refine W.no 1 100000 (by kernel_rfl) ?_
      refine W.cond 1 100000 h1265 (by kernel_rfl) (fun h1265 => ?_) (fun h1265 => ?_)
      ·
        refine W.bind h1265 fun a_1241 ha_1241 h1265 => ?_
        refine W.call 1 100000 (by kernel_rfl) (cellarerlaw07_awake_con ha_1241) (by kernel_rfl) ?_
        cases h1265; exact W.retK 1 100000 K1265 (by kernel_rfl)
      ·
        cases h1265; exact W.at 1 100000 [] [1, 2] (by kernel_rfl) K1265

theorem cellarerlaw07_RelationGroups_con {l_1268 : List (List (List UInt8 × List UInt8 × List UInt8))} {r : Bool} (h : cellarerlaw07_RelationGroups l_1268 = some r) : Con Go.Proofs.Tryd.prog 4 [AV.list (Ty.list (Ty.prod Ty.str (Ty.prod Ty.str Ty.str))) l_1268 Bool.false] [] (cellarerlaw07_RelationGroups_res r) (cellarerlaw07_RelationGroups_out r) := by
  refine W.con (by kernel_rfl) ?_
  unfold cellarerlaw07_RelationGroups at h
  refine W.bind h fun a_1269 ha_1269 h => ?_
  refine W.call 0 100000 (by kernel_rfl) (cellarerlaw07_few_con ha_1269) (by kernel_rfl) ?_
  refine W.cond 0 100000 h (by kernel_rfl) (fun h => ?_) (fun h => ?_)
  ·
    refine W.bind h fun a_1270 ha_1270 h => ?_
    refine W.call 0 100000 (by kernel_rfl) (cellarerlaw07_awake_con ha_1270) (by kernel_rfl) ?_
    exact W.retT 0 100000 h (by kernel_rfl)
  ·
    refine W.bind h fun a_1271 ha_1271 h => ?_
    refine W.call 0 100000 (by kernel_rfl) (relation_All_con ha_1271) (by kernel_rfl) ?_
    refine W.bind h fun a_1272 ha_1272 h => ?_
    refine W.call 0 100000 (by kernel_rfl) (cellarerref07_All_con ha_1272) (by kernel_rfl) ?_
    refine W.join (fun t => (Sum.elim (fun t_1273 => r = (Bool.false)) (fun t_1274 => Walk Go.Proofs.Tryd.prog 4 (Cfg.mk Mode.run (seqTodo Go.Proofs.Tryd.prog 4 6) (St.mk [AV.list (Ty.list (Ty.prod Ty.str (Ty.prod Ty.str Ty.str))) l_1268 Bool.false, jj, jj, AV.str (Prod.fst a_1271), AV.int IntKind.i64 (Prod.snd a_1271), jj, jj, jj, jj, jj, jj, jj, jj, jj, jj, jj, jj, jj, jj, jj, jj, jj, jj, jj, jj, jj, jj, jj, jj, jj, jj, jj, jj, jj, jj, jj, jj, jj, jj, jj, jj, jj, jj, jj, jj, jj, jj, jj, jj] [] (0 : Nat))) (cellarerlaw07_RelationGroups_res r) (cellarerlaw07_RelationGroups_out r))) t) h (fun t h => ?_) (fun t1280 h1280 K1280 => ?_)
    ·
      rcases t with t_1273 | t_1274
      · replace h := W.inl (h)
        refine W.elimL (?_)
        exact (Option.some.inj h).symm
      · replace h := W.inr (h)
        refine W.elimR (?_)
        refine W.cond 0 100000 h (by kernel_rfl) (fun h => ?_) (fun h => ?_)
        ·
          refine W.bind h fun a_1275 ha_1275 h => ?_
          refine W.call 0 100000 (by kernel_rfl) (cellarerlaw07_awake_con ha_1275) (by kernel_rfl) ?_
          exact W.retT 0 100000 h (by kernel_rfl)
        ·
          refine W.bind h fun a_1276 ha_1276 h => ?_
          refine W.call 0 100000 (by kernel_rfl) (relation_ParseAll_con ha_1276) (by kernel_rfl) ?_
          refine W.cond 0 100000 h (by kernel_rfl) (fun h => ?_) (fun h => ?_)
          ·
            refine W.yes 0 100000 (by kernel_rfl) ?_
            refine W.yes 0 100000 (by kernel_rfl) ?_
            refine W.bind h fun a_1277 ha_1277 h => ?_
            refine W.call 0 100000 (by kernel_rfl) (cellarerref07_Same_con ha_1277) (by kernel_rfl) ?_
            refine W.yes 0 100000 (by kernel_rfl) ?_
            refine W.cond 0 100000 h (by kernel_rfl) (fun h => ?_) (fun h => ?_)
            ·
              refine W.bind h fun a_1278 ha_1278 h => ?_
              refine W.call 0 100000 (by kernel_rfl) (cellarerlaw07_awake_con ha_1278) (by kernel_rfl) ?_
              refine W.yes 0 100000 (by kernel_rfl) ?_
              exact W.retT 0 100000 h (by kernel_rfl)
            ·
              refine W.no 0 100000 (by kernel_rfl) ?_
              exact W.retT 0 100000 h (by kernel_rfl)
          ·
            refine W.no 0 100000 (by kernel_rfl) ?_
            refine W.no 0 100000 (by kernel_rfl) ?_
            refine W.no 0 100000 (by kernel_rfl) ?_
            refine W.no 0 100000 (by kernel_rfl) ?_
            refine W.no 0 100000 (by kernel_rfl) ?_
            exact W.retT 0 100000 h (by kernel_rfl)
    · refine W.next 0 7 (by kernel_rfl) ?_
      refine W.cond 1 100000 h1280 (by kernel_rfl) (fun h1280 => ?_) (fun h1280 => ?_)
      ·
        refine W.yes 1 100000 (by kernel_rfl) ?_
        refine W.yes 1 100000 (by kernel_rfl) ?_
        refine W.yes 1 100000 (by kernel_rfl) ?_
        refine W.yes 1 100000 (by kernel_rfl) ?_
        cases h1280; exact W.retK 1 100000 K1280 (by kernel_rfl)
      ·
        refine W.no 1 100000 (by kernel_rfl) ?_
        refine W.no 1 100000 (by kernel_rfl) ?_
        refine W.no 1 100000 (by kernel_rfl) ?_
        refine W.cond 1 100000 h1280 (by kernel_rfl) (fun h1280 => ?_) (fun h1280 => ?_)
        ·
          cases h1280; exact W.retK 1 100000 K1280 (by kernel_rfl)
        ·
          cases h1280; exact W.at 1 100000 [] [0, 3, 4] (by kernel_rfl) K1280

theorem cellarerlaw07_RelationLacks_con {l_1285 : List (List (List UInt8 × List UInt8 × List UInt8))} {there_1286 : List (List UInt8 × List UInt8 × List UInt8)} {more_1287 : List UInt8} {more_1288 : List UInt8} {more_1289 : List UInt8} {r : Bool} (h : cellarerlaw07_RelationLacks l_1285 there_1286 more_1287 more_1288 more_1289 = some r) : Con Go.Proofs.Tryd.prog 5 [AV.list (Ty.list (Ty.prod Ty.str (Ty.prod Ty.str Ty.str))) l_1285 Bool.false, AV.list (Ty.prod Ty.str (Ty.prod Ty.str Ty.str)) there_1286 Bool.false, AV.agg [AV.str more_1287, AV.str more_1288, AV.str more_1289]] [] (cellarerlaw07_RelationLacks_res r) (cellarerlaw07_RelationLacks_out r) := by
  refine W.con (by kernel_rfl) ?_
  unfold cellarerlaw07_RelationLacks at h
  refine W.join (fun t => (Sum.elim (fun t_1295 => r = (t_1295)) (fun t_1296 => Walk Go.Proofs.Tryd.prog 5 (Cfg.mk Mode.run (seqTodo Go.Proofs.Tryd.prog 5 1) (St.mk [AV.list (Ty.list (Ty.prod Ty.str (Ty.prod Ty.str Ty.str))) l_1285 Bool.false, AV.list (Ty.prod Ty.str (Ty.prod Ty.str Ty.str)) there_1286 Bool.false, jj, jj, jj, AV.ptr (0 : Nat) (0 : Nat), jj, jj, jj, jj, jj, jj, jj, jj, jj, jj, jj, jj, jj, jj, jj, jj, jj, jj, jj, jj, jj, jj, jj, jj, jj, jj, jj, jj, jj, jj, jj, jj, jj, jj, jj, jj, jj, jj, jj, jj, jj, jj, jj, jj, jj, jj, jj, jj, jj, jj, jj, jj, jj, jj, jj, jj, jj, jj, jj, jj, jj, jj, jj, jj, jj, jj, jj, jj, jj, jj, jj, jj, jj, jj, jj, jj, jj, jj, jj, jj, jj, jj, jj, jj, jj, jj, jj, jj, jj, jj, jj, jj, jj, jj, jj, jj, jj, jj, jj, jj, jj, jj, jj, jj, jj, jj, jj, jj, jj, jj, jj, jj, jj, jj, jj] [AO.box [AV.str more_1287, AV.str more_1288, AV.str more_1289]] (0 : Nat))) (cellarerlaw07_RelationLacks_res r) (cellarerlaw07_RelationLacks_out r))) t) h (fun t h => ?_) (fun t1338 h1338 K1338 => ?_)
  ·
    rcases t with t_1295 | t_1296
    · replace h := W.inl (h)
      refine W.elimL (?_)
      exact (Option.some.inj h).symm
    · replace h := W.inr (h)
      refine W.elimR (?_)
      refine W.at 0 100000 [] [0, 1, 5, 7] (c' := (fun (s_1344 : Int) => (Cfg.mk Mode.run (headTodo Go.Proofs.Tryd.prog 5 0) (St.mk [AV.list (Ty.list (Ty.prod Ty.str (Ty.prod Ty.str Ty.str))) l_1285 Bool.false, AV.list (Ty.prod Ty.str (Ty.prod Ty.str Ty.str)) there_1286 Bool.false, jj, jj, jj, AV.ptr (0 : Nat) (0 : Nat), jj, AV.int IntKind.i64 s_1344, jj, jj, jj, jj, jj, jj, jj, jj, jj, jj, jj, jj, jj, jj, jj, jj, jj, jj, jj, jj, jj, jj, jj, jj, jj, jj, jj, jj, jj, jj, jj, jj, jj, jj, jj, jj, jj, jj, jj, jj, jj, jj, jj, jj, jj, jj, jj, jj, jj, jj, jj, jj, jj, jj, jj, jj, jj, jj, jj, jj, jj, jj, jj, jj, jj, jj, jj, jj, jj, jj, jj, jj, jj, jj, jj, jj, jj, jj, jj, jj, jj, jj, jj, jj, jj, jj, jj, jj, jj, jj, jj, jj, jj, jj, jj, jj, jj, jj, jj, jj, jj, jj, jj, jj, jj, jj, jj, jj, jj, jj, jj, jj, jj] [AO.box [AV.str more_1287, AV.str more_1288, AV.str more_1289]] (0 : Nat)))) ((0 : Int))) (by kernel_rfl) ?_
      refine W.loop (fun (s_1344 : Int) => (Cfg.mk Mode.run (headTodo Go.Proofs.Tryd.prog 5 0) (St.mk [AV.list (Ty.list (Ty.prod Ty.str (Ty.prod Ty.str Ty.str))) l_1285 Bool.false, AV.list (Ty.prod Ty.str (Ty.prod Ty.str Ty.str)) there_1286 Bool.false, jj, jj, jj, AV.ptr (0 : Nat) (0 : Nat), jj, AV.int IntKind.i64 s_1344, jj, jj, jj, jj, jj, jj, jj, jj, jj, jj, jj, jj, jj, jj, jj, jj, jj, jj, jj, jj, jj, jj, jj, jj, jj, jj, jj, jj, jj, jj, jj, jj, jj, jj, jj, jj, jj, jj, jj, jj, jj, jj, jj, jj, jj, jj, jj, jj, jj, jj, jj, jj, jj, jj, jj, jj, jj, jj, jj, jj, jj, jj, jj, jj, jj, jj, jj, jj, jj, jj, jj, jj, jj, jj, jj, jj, jj, jj, jj, jj, jj, jj, jj, jj, jj, jj, jj, jj, jj, jj, jj, jj, jj, jj, jj, jj, jj, jj, jj, jj, jj, jj, jj, jj, jj, jj, jj, jj, jj, jj, jj, jj, jj] [AO.box [AV.str more_1287, AV.str more_1288, AV.str more_1289]] (0 : Nat)))) (fun t => (Sum.elim (fun t_1305 => r = (Bool.false)) (fun t_1306 => Walk Go.Proofs.Tryd.prog 5 (Cfg.mk Mode.run ((headTodo Go.Proofs.Tryd.prog 5 0).drop 3) (St.mk [AV.list (Ty.list (Ty.prod Ty.str (Ty.prod Ty.str Ty.str))) l_1285 Bool.false, AV.list (Ty.prod Ty.str (Ty.prod Ty.str Ty.str)) there_1286 Bool.false, jj, jj, jj, AV.ptr (0 : Nat) (0 : Nat), jj, jj, jj, jj, jj, jj, jj, jj, jj, jj, jj, jj, jj, jj, jj, jj, jj, jj, jj, jj, jj, jj, jj, jj, jj, jj, jj, jj, jj, jj, jj, jj, jj, jj, jj, jj, jj, jj, jj, jj, jj, jj, jj, jj, jj, jj, jj, jj, jj, jj, jj, jj, jj, jj, jj, jj, jj, jj, jj, jj, jj, jj, jj, jj, jj, jj, jj, jj, jj, jj, jj, jj, jj, jj, jj, jj, jj, jj, jj, jj, jj, jj, jj, jj, jj, jj, jj, jj, jj, jj, jj, jj, jj, jj, jj, jj, jj, jj, jj, jj, jj, jj, jj, jj, jj, jj, jj, jj, jj, jj, jj, jj, jj, jj, jj] [AO.box [AV.str more_1287, AV.str more_1288, AV.str more_1289]] (0 : Nat))) (cellarerlaw07_RelationLacks_res r) (cellarerlaw07_RelationLacks_out r))) t) h (fun t h => ?_) (fun s_1344 x1337 h1337 K1337 => ?_)
      ·
        rcases t with t_1305 | t_1306
        · replace h := W.inl (h)
          refine W.elimL (?_)
          exact (Option.some.inj h).symm
        · replace h := W.inr (h)
          refine W.elimR (?_)
          refine W.bind h fun a_1307 ha_1307 h => ?_
          refine W.call 0 100000 (by kernel_rfl) (relation_Lacks_con ha_1307) (by kernel_rfl) ?_
          refine W.bind h fun a_1308 ha_1308 h => ?_
          refine W.call 0 100000 (by kernel_rfl) (cellarerref07_Lacks_con ha_1308) (by kernel_rfl) ?_
          refine W.cond 0 100000 h (by kernel_rfl) (fun h => ?_) (fun h => ?_)
          ·
            exact W.retT 0 100000 h (by kernel_rfl)
          ·
            refine W.at 0 100000 [] [0, 1, 5, 8, 9, 10] (c' := (fun (s_1345 : Int) => (Cfg.mk Mode.run (headTodo Go.Proofs.Tryd.prog 5 1) (St.mk [AV.list (Ty.list (Ty.prod Ty.str (Ty.prod Ty.str Ty.str))) l_1285 Bool.false, AV.list (Ty.prod Ty.str (Ty.prod Ty.str Ty.str)) there_1286 Bool.false, jj, jj, jj, AV.ptr (0 : Nat) (0 : Nat), jj, jj, AV.view (1 : Nat) (0 : Nat) Option.none, AV.view (2 : Nat) (0 : Nat) Option.none, AV.int IntKind.i64 s_1345, jj, jj, jj, jj, jj, jj, jj, jj, jj, jj, jj, jj, jj, jj, jj, jj, jj, jj, jj, jj, jj, jj, jj, jj, jj, jj, jj, jj, jj, jj, jj, jj, jj, jj, jj, jj, jj, jj, jj, jj, jj, jj, jj, jj, jj, jj, jj, jj, jj, jj, jj, jj, jj, jj, jj, jj, jj, jj, jj, jj, jj, jj, jj, jj, jj, jj, jj, jj, jj, jj, jj, jj, jj, jj, jj, jj, jj, jj, jj, jj, jj, jj, jj, jj, jj, jj, jj, jj, jj, jj, jj, jj, jj, jj, jj, jj, jj, jj, jj, jj, jj, jj, jj, jj, jj, jj, jj, jj, jj, jj] [AO.box [AV.str more_1287, AV.str more_1288, AV.str more_1289], AO.row (Ty.int IntKind.i64) a_1307, AO.row (Ty.int IntKind.i64) a_1308] (0 : Nat)))) ((0 : Int))) (by kernel_rfl) ?_
            refine W.loop (fun (s_1345 : Int) => (Cfg.mk Mode.run (headTodo Go.Proofs.Tryd.prog 5 1) (St.mk [AV.list (Ty.list (Ty.prod Ty.str (Ty.prod Ty.str Ty.str))) l_1285 Bool.false, AV.list (Ty.prod Ty.str (Ty.prod Ty.str Ty.str)) there_1286 Bool.false, jj, jj, jj, AV.ptr (0 : Nat) (0 : Nat), jj, jj, AV.view (1 : Nat) (0 : Nat) Option.none, AV.view (2 : Nat) (0 : Nat) Option.none, AV.int IntKind.i64 s_1345, jj, jj, jj, jj, jj, jj, jj, jj, jj, jj, jj, jj, jj, jj, jj, jj, jj, jj, jj, jj, jj, jj, jj, jj, jj, jj, jj, jj, jj, jj, jj, jj, jj, jj, jj, jj, jj, jj, jj, jj, jj, jj, jj, jj, jj, jj, jj, jj, jj, jj, jj, jj, jj, jj, jj, jj, jj, jj, jj, jj, jj, jj, jj, jj, jj, jj, jj, jj, jj, jj, jj, jj, jj, jj, jj, jj, jj, jj, jj, jj, jj, jj, jj, jj, jj, jj, jj, jj, jj, jj, jj, jj, jj, jj, jj, jj, jj, jj, jj, jj, jj, jj, jj, jj, jj, jj, jj, jj, jj, jj] [AO.box [AV.str more_1287, AV.str more_1288, AV.str more_1289], AO.row (Ty.int IntKind.i64) a_1307, AO.row (Ty.int IntKind.i64) a_1308] (0 : Nat)))) (fun t => (Sum.elim (fun t_1317 => r = (Bool.false)) (fun t_1318 => Walk Go.Proofs.Tryd.prog 5 (Cfg.mk Mode.run ((headTodo Go.Proofs.Tryd.prog 5 1).drop 3) (St.mk [AV.list (Ty.list (Ty.prod Ty.str (Ty.prod Ty.str Ty.str))) l_1285 Bool.false, AV.list (Ty.prod Ty.str (Ty.prod Ty.str Ty.str)) there_1286 Bool.false, jj, jj, jj, AV.ptr (0 : Nat) (0 : Nat), jj, jj, AV.view (1 : Nat) (0 : Nat) Option.none, jj, jj, jj, jj, jj, jj, jj, jj, jj, jj, jj, jj, jj, jj, jj, jj, jj, jj, jj, jj, jj, jj, jj, jj, jj, jj, jj, jj, jj, jj, jj, jj, jj, jj, jj, jj, jj, jj, jj, jj, jj, jj, jj, jj, jj, jj, jj, jj, jj, jj, jj, jj, jj, jj, jj, jj, jj, jj, jj, jj, jj, jj, jj, jj, jj, jj, jj, jj, jj, jj, jj, jj, jj, jj, jj, jj, jj, jj, jj, jj, jj, jj, jj, jj, jj, jj, jj, jj, jj, jj, jj, jj, jj, jj, jj, jj, jj, jj, jj, jj, jj, jj, jj, jj, jj, jj, jj, jj, jj, jj, jj, jj] [AO.box [AV.str more_1287, AV.str more_1288, AV.str more_1289], AO.row (Ty.int IntKind.i64) a_1307] (0 : Nat))) (cellarerlaw07_RelationLacks_res r) (cellarerlaw07_RelationLacks_out r))) t) h (fun t h => ?_) (fun s_1345 x1336 h1336 K1336 => ?_)
            ·
              rcases t with t_1317 | t_1318
              · replace h := W.inl (h)
                refine W.elimL (?_)
                exact (Option.some.inj h).symm
              · replace h := W.inr (h)
                refine W.elimR (?_)
                refine W.needT 0 100000 h (by kernel_rfl) (fun h => ?_)
                refine W.needT 0 100000 h (by kernel_rfl) (fun h => ?_)
                refine W.bind h fun a_1319 ha_1319 h => ?_
                refine W.call 0 100000 (by kernel_rfl) (relation_Lacks_con ha_1319) (by kernel_rfl) ?_
                refine W.at 0 100000 [] [8, 12, 13] (c' := (fun (s_1346 : Int) => (Cfg.mk Mode.run (headTodo Go.Proofs.Tryd.prog 5 2) (St.mk [jj, jj, jj, jj, jj, jj, jj, jj, AV.view (0 : Nat) (0 : Nat) Option.none, jj, jj, jj, AV.view (1 : Nat) (0 : Nat) Option.none, AV.int IntKind.i64 s_1346, jj, jj, jj, jj, jj, jj, jj, jj, jj, jj, jj, jj, jj, jj, jj, jj, jj, jj, jj, jj, jj, jj, jj, jj, jj, jj, jj, jj, jj, jj, jj, jj, jj, jj, jj, jj, jj, jj, jj, jj, jj, jj, jj, jj, jj, jj, jj, jj, jj, jj, jj, jj, jj, jj, jj, jj, jj, jj, jj, jj, jj, jj, jj, jj, jj, jj, jj, jj, jj, jj, jj, jj, jj, jj, jj, jj, jj, jj, jj, jj, jj, jj, jj, jj, jj, jj, jj, jj, jj, jj, jj, jj, jj, jj, jj, jj, jj, jj, jj, jj, jj, jj, jj, jj, jj, jj, jj] [AO.row (Ty.int IntKind.i64) a_1307, AO.row (Ty.int IntKind.i64) a_1319] (0 : Nat)))) ((0 : Int))) (by kernel_rfl) ?_
                refine W.loop (fun (s_1346 : Int) => (Cfg.mk Mode.run (headTodo Go.Proofs.Tryd.prog 5 2) (St.mk [jj, jj, jj, jj, jj, jj, jj, jj, AV.view (0 : Nat) (0 : Nat) Option.none, jj, jj, jj, AV.view (1 : Nat) (0 : Nat) Option.none, AV.int IntKind.i64 s_1346, jj, jj, jj, jj, jj, jj, jj, jj, jj, jj, jj, jj, jj, jj, jj, jj, jj, jj, jj, jj, jj, jj, jj, jj, jj, jj, jj, jj, jj, jj, jj, jj, jj, jj, jj, jj, jj, jj, jj, jj, jj, jj, jj, jj, jj, jj, jj, jj, jj, jj, jj, jj, jj, jj, jj, jj, jj, jj, jj, jj, jj, jj, jj, jj, jj, jj, jj, jj, jj, jj, jj, jj, jj, jj, jj, jj, jj, jj, jj, jj, jj, jj, jj, jj, jj, jj, jj, jj, jj, jj, jj, jj, jj, jj, jj, jj, jj, jj, jj, jj, jj, jj, jj, jj, jj, jj, jj] [AO.row (Ty.int IntKind.i64) a_1307, AO.row (Ty.int IntKind.i64) a_1319] (0 : Nat)))) (fun t => (Sum.elim (fun t_1331 => r = (Bool.false)) (fun t_1332 => Walk Go.Proofs.Tryd.prog 5 (Cfg.mk Mode.run ((headTodo Go.Proofs.Tryd.prog 5 2).drop 3) (St.mk [jj, jj, jj, jj, jj, jj, jj, jj, jj, jj, jj, jj, jj, jj, jj, jj, jj, jj, jj, jj, jj, jj, jj, jj, jj, jj, jj, jj, jj, jj, jj, jj, jj, jj, jj, jj, jj, jj, jj, jj, jj, jj, jj, jj, jj, jj, jj, jj, jj, jj, jj, jj, jj, jj, jj, jj, jj, jj, jj, jj, jj, jj, jj, jj, jj, jj, jj, jj, jj, jj, jj, jj, jj, jj, jj, jj, jj, jj, jj, jj, jj, jj, jj, jj, jj, jj, jj, jj, jj, jj, jj, jj, jj, jj, jj, jj, jj, jj, jj, jj, jj, jj, jj, jj, jj, jj, jj, jj, jj, jj, jj, jj, jj, jj, jj, jj, jj, jj, jj, jj, jj] [] (0 : Nat))) (cellarerlaw07_RelationLacks_res r) (cellarerlaw07_RelationLacks_out r))) t) h (fun t h => ?_) (fun s_1346 x1335 h1335 K1335 => ?_)
                ·
                  rcases t with t_1331 | t_1332
                  · replace h := W.inl (h)
                    refine W.elimL (?_)
                    exact (Option.some.inj h).symm
                  · replace h := W.inr (h)
                    refine W.elimR (?_)
                    refine W.bind h fun a_1333 ha_1333 h => ?_
                    refine W.call 0 100000 (by kernel_rfl) (cellarerlaw07_awake_con ha_1333) (by kernel_rfl) ?_
                    exact W.retT 0 100000 h (by kernel_rfl)
                · unfold cellarerlaw07_RelationLacks_b3 at h1335
                  refine W.cond 2 100000 h1335 (by kernel_rfl) (fun h1335 => ?_) (fun h1335 => ?_)
                  ·
                    refine W.at 2 100000 [] [8, 12, 13, 14, 15] (c' := (fun (s_1347 : Bool × Int) => (Cfg.mk Mode.run (headTodo Go.Proofs.Tryd.prog 5 3) (St.mk [jj, jj, jj, jj, jj, jj, jj, jj, AV.view (0 : Nat) (0 : Nat) Option.none, jj, jj, jj, AV.view (1 : Nat) (0 : Nat) Option.none, AV.int IntKind.i64 s_1346, AV.bool (Prod.fst s_1347), AV.int IntKind.i64 (Prod.snd s_1347), jj, jj, jj, jj, jj, jj, jj, jj, jj, jj, jj, jj, jj, jj, jj, jj, jj, jj, jj, jj, jj, jj, jj, jj, jj, jj, jj, jj, jj, jj, jj, jj, jj, jj, jj, jj, jj, jj, jj, jj, jj, jj, jj, jj, jj, jj, jj, jj, jj, jj, jj, jj, jj, jj, jj, jj, jj, jj, jj, jj, jj, jj, jj, jj, jj, jj, jj, jj, jj, jj, jj, jj, jj, jj, jj, jj, jj, jj, jj, jj, jj, jj, jj, jj, jj, jj, jj, jj, jj, jj, jj, jj, jj, jj, jj, jj, jj, jj, jj, jj, jj, jj, jj, jj, jj] [AO.row (Ty.int IntKind.i64) a_1307, AO.row (Ty.int IntKind.i64) a_1319] (0 : Nat)))) (Bool.false, (0 : Int))) (by kernel_rfl) ?_
                    refine W.loop (fun (s_1347 : Bool × Int) => (Cfg.mk Mode.run (headTodo Go.Proofs.Tryd.prog 5 3) (St.mk [jj, jj, jj, jj, jj, jj, jj, jj, AV.view (0 : Nat) (0 : Nat) Option.none, jj, jj, jj, AV.view (1 : Nat) (0 : Nat) Option.none, AV.int IntKind.i64 s_1346, AV.bool (Prod.fst s_1347), AV.int IntKind.i64 (Prod.snd s_1347), jj, jj, jj, jj, jj, jj, jj, jj, jj, jj, jj, jj, jj, jj, jj, jj, jj, jj, jj, jj, jj, jj, jj, jj, jj, jj, jj, jj, jj, jj, jj, jj, jj, jj, jj, jj, jj, jj, jj, jj, jj, jj, jj, jj, jj, jj, jj, jj, jj, jj, jj, jj, jj, jj, jj, jj, jj, jj, jj, jj, jj, jj, jj, jj, jj, jj, jj, jj, jj, jj, jj, jj, jj, jj, jj, jj, jj, jj, jj, jj, jj, jj, jj, jj, jj, jj, jj, jj, jj, jj, jj, jj, jj, jj, jj, jj, jj, jj, jj, jj, jj, jj, jj, jj, jj] [AO.row (Ty.int IntKind.i64) a_1307, AO.row (Ty.int IntKind.i64) a_1319] (0 : Nat)))) (fun t_1329 => Walk Go.Proofs.Tryd.prog 5 (Cfg.mk Mode.run ((headTodo Go.Proofs.Tryd.prog 5 3).drop 3) (St.mk [jj, jj, jj, jj, jj, jj, jj, jj, AV.view (0 : Nat) (0 : Nat) Option.none, jj, jj, jj, AV.view (1 : Nat) (0 : Nat) Option.none, AV.int IntKind.i64 s_1346, AV.bool t_1329, jj, jj, jj, jj, jj, jj, jj, jj, jj, jj, jj, jj, jj, jj, jj, jj, jj, jj, jj, jj, jj, jj, jj, jj, jj, jj, jj, jj, jj, jj, jj, jj, jj, jj, jj, jj, jj, jj, jj, jj, jj, jj, jj, jj, jj, jj, jj, jj, jj, jj, jj, jj, jj, jj, jj, jj, jj, jj, jj, jj, jj, jj, jj, jj, jj, jj, jj, jj, jj, jj, jj, jj, jj, jj, jj, jj, jj, jj, jj, jj, jj, jj, jj, jj, jj, jj, jj, jj, jj, jj, jj, jj, jj, jj, jj, jj, jj, jj, jj, jj, jj, jj, jj, jj, jj, jj] [AO.row (Ty.int IntKind.i64) a_1307, AO.row (Ty.int IntKind.i64) a_1319] (0 : Nat))) (cellarerlaw07_RelationLacks_res r) (cellarerlaw07_RelationLacks_out r)) h1335 (fun t_1329 h1335 => ?_) (fun s_1347 x1331 h1331 K1331 => ?_)
                    ·
                      refine W.cond 2 100000 h1335 (by kernel_rfl) (fun h1335 => ?_) (fun h1335 => ?_)
                      ·
                        cases h1335; exact W.retK 2 100000 K1335 (by kernel_rfl)
                      ·
                        cases h1335; exact W.at 2 100000 [] [8, 12, 13] (by kernel_rfl) K1335
                    · unfold cellarerlaw07_RelationLacks_b2 at h1331
                      refine W.cond 7 100000 h1331 (by kernel_rfl) (fun h1331 => ?_) (fun h1331 => ?_)
                      ·
                        refine W.cond 7 100000 h1331 (by kernel_rfl) (fun h1331 => ?_) (fun h1331 => ?_)
                        ·
                          refine W.yes 7 100000 (by kernel_rfl) ?_
                          refine W.yes 7 100000 (by kernel_rfl) ?_
                          refine W.yes 7 100000 (by kernel_rfl) ?_
                          refine W.yes 7 100000 (by kernel_rfl) ?_
                          refine W.yes 7 100000 (by kernel_rfl) ?_
                          refine W.yes 7 100000 (by kernel_rfl) ?_
                          refine W.yes 7 100000 (by kernel_rfl) ?_
                          refine W.yes 7 100000 (by kernel_rfl) ?_
                          refine W.yes 7 100000 (by kernel_rfl) ?_
                          cases h1331; exact W.at 7 100000 [] [8, 12, 13, 14, 15] (by kernel_rfl) K1331
                        ·
                          refine W.no 7 100000 (by kernel_rfl) ?_
                          refine W.no 7 100000 (by kernel_rfl) ?_
                          refine W.needT 7 100000 h1331 (by kernel_rfl) (fun h1331 => ?_)
                          refine W.no 7 100000 (by kernel_rfl) ?_
                          refine W.needT 7 100000 h1331 (by kernel_rfl) (fun h1331 => ?_)
                          refine W.no 7 100000 (by kernel_rfl) ?_
                          refine W.no 7 100000 (by kernel_rfl) ?_
                          refine W.no 7 100000 (by kernel_rfl) ?_
                          refine W.needT 7 100000 h1331 (by kernel_rfl) (fun h1331 => ?_)
                          refine W.no 7 100000 (by kernel_rfl) ?_
                          refine W.needT 7 100000 h1331 (by kernel_rfl) (fun h1331 => ?_)
                          refine W.no 7 100000 (by kernel_rfl) ?_
                          refine W.no 7 100000 (by kernel_rfl) ?_
                          cases h1331; exact W.at 7 100000 [] [8, 12, 13, 14, 15] (by kernel_rfl) K1331
                      ·
                        cases h1331; exact W.at 7 100000 [] [8, 12, 13, 14] (by kernel_rfl) K1331
                  ·
                    cases h1335; exact W.at 2 100000 [] [] (by kernel_rfl) K1335
            · unfold cellarerlaw07_RelationLacks_b1 at h1336
              refine W.cond 2 100000 h1336 (by kernel_rfl) (fun h1336 => ?_) (fun h1336 => ?_)
              ·
                refine W.needT 2 100000 h1336 (by kernel_rfl) (fun h1336 => ?_)
                refine W.needT 2 100000 h1336 (by kernel_rfl) (fun h1336 => ?_)
                refine W.needT 2 100000 h1336 (by kernel_rfl) (fun h1336 => ?_)
                refine W.needT 2 100000 h1336 (by kernel_rfl) (fun h1336 => ?_)
                refine W.cond 2 100000 h1336 (by kernel_rfl) (fun h1336 => ?_) (fun h1336 => ?_)
                ·
                  cases h1336; exact W.retK 2 100000 K1336 (by kernel_rfl)
                ·
                  cases h1336; exact W.at 2 100000 [] [0, 1, 5, 8, 9, 10] (by kernel_rfl) K1336
              ·
                cases h1336; exact W.at 2 100000 [] [0, 1, 5, 8] (by kernel_rfl) K1336
      · unfold cellarerlaw07_RelationLacks_b0 at h1337
        refine W.cond 2 100000 h1337 (by kernel_rfl) (fun h1337 => ?_) (fun h1337 => ?_)
        ·
          refine W.needT 2 100000 h1337 (by kernel_rfl) (fun h1337 => ?_)
          refine W.needT 2 100000 h1337 (by kernel_rfl) (fun h1337 => ?_)
          refine W.bind h1337 fun a_1303 ha_1303 h1337 => ?_
          refine W.call 2 100000 (by kernel_rfl) (relation_Fits_con ha_1303) (by kernel_rfl) ?_
          refine W.needT 2 100000 h1337 (by kernel_rfl) (fun h1337 => ?_)
          refine W.needT 2 100000 h1337 (by kernel_rfl) (fun h1337 => ?_)
          refine W.bind h1337 fun a_1304 ha_1304 h1337 => ?_
          refine W.call 2 100000 (by kernel_rfl) (cellarerref07_Fits_con ha_1304) (by kernel_rfl) ?_
          refine W.cond 2 100000 h1337 (by kernel_rfl) (fun h1337 => ?_) (fun h1337 => ?_)
          ·
            cases h1337; exact W.retK 2 100000 K1337 (by kernel_rfl)
          ·
            cases h1337; exact W.at 2 100000 [] [0, 1, 5, 7] (by kernel_rfl) K1337
        ·
          cases h1337; exact W.at 2 100000 [] [0, 1, 5] (by kernel_rfl) K1337
  · refine W.next 0 6 (by kernel_rfl) ?_
    refine W.bind h1338 fun a_1290 ha_1290 h1338 => ?_
    refine W.call 1 100000 (by kernel_rfl) (cellarerlaw07_few_con ha_1290) (by kernel_rfl) ?_
    refine W.cond 1 100000 h1338 (by kernel_rfl) (fun h1338 => ?_) (fun h1338 => ?_)
    ·
      refine W.yes 1 100000 (by kernel_rfl) ?_
      refine W.yes 1 100000 (by kernel_rfl) ?_
      refine W.yes 1 100000 (by kernel_rfl) ?_
      refine W.yes 1 100000 (by kernel_rfl) ?_
      refine W.yes 1 100000 (by kernel_rfl) ?_
      refine W.yes 1 100000 (by kernel_rfl) ?_
      refine W.yes 1 100000 (by kernel_rfl) ?_
      refine W.bind h1338 fun a_1291 ha_1291 h1338 => ?_
      refine W.call 1 100000 (by kernel_rfl) (cellarerlaw07_awake_con ha_1291) (by kernel_rfl) ?_
      cases h1338; exact W.retK 1 100000 K1338 (by kernel_rfl)
    ·
      refine W.no 1 100000 (by kernel_rfl) ?_
      refine W.no 1 100000 (by kernel_rfl) ?_
      refine W.no 1 100000 (by kernel_rfl) ?_
      refine W.no 1 100000 (by kernel_rfl) ?_
      refine W.bind h1338 fun a_1292 ha_1292 h1338 => ?_
      refine W.call 1 100000 (by kernel_rfl) (cellarerlaw07_few_con ha_1292) (by kernel_rfl) ?_
      refine W.no 1 100000 (by kernel_rfl) ?_
      refine W.no 1 100000 (by kernel_rfl) ?_
      refine W.cond 1 100000 h1338 (by kernel_rfl) (fun h1338 => ?_) (fun h1338 => ?_)
      ·
        refine W.bind h1338 fun a_1293 ha_1293 h1338 => ?_
        refine W.call 1 100000 (by kernel_rfl) (cellarerlaw07_awake_con ha_1293) (by kernel_rfl) ?_
        cases h1338; exact W.retK 1 100000 K1338 (by kernel_rfl)
      ·
        cases h1338; exact W.at 1 100000 [] [0, 1, 5] (by kernel_rfl) K1338

theorem cellarerlaw07_RelationParses_con {s_1349 : List UInt8} {r : Bool} (h : cellarerlaw07_RelationParses s_1349 = some r) : Con Go.Proofs.Tryd.prog 6 [AV.str s_1349] [] (cellarerlaw07_RelationParses_res r) (cellarerlaw07_RelationParses_out r) := by
  refine W.con (by kernel_rfl) ?_
  unfold cellarerlaw07_RelationParses at h
  refine W.cond 0 100000 h (by kernel_rfl) (fun h => ?_) (fun h => ?_)
  ·
    refine W.bind h fun a_1350 ha_1350 h => ?_
    refine W.call 0 100000 (by kernel_rfl) (cellarerlaw07_awake_con ha_1350) (by kernel_rfl) ?_
    exact W.retT 0 100000 h (by kernel_rfl)
  ·
    refine W.bind h fun a_1351 ha_1351 h => ?_
    refine W.call 0 100000 (by kernel_rfl) (relation_ParseAll_con ha_1351) (by kernel_rfl) ?_
    refine W.bind h fun a_1352 ha_1352 h => ?_
    refine W.call 0 100000 (by kernel_rfl) (cellarerref07_ParseAll_con ha_1352) (by kernel_rfl) ?_
    refine W.bind h fun a_1353 ha_1353 h => ?_
    refine W.call 0 100000 (by kernel_rfl) (relation_ParseList_con ha_1353) (by kernel_rfl) ?_
    refine W.bind h fun a_1354 ha_1354 h => ?_
    refine W.call 0 100000 (by kernel_rfl) (cellarerref07_ParseList_con ha_1354) (by kernel_rfl) ?_
    refine W.join (fun t => (Sum.elim (fun t_1359 => r = (Bool.false)) (fun t_1360 => Walk Go.Proofs.Tryd.prog 6 (Cfg.mk Mode.run (seqTodo Go.Proofs.Tryd.prog 6 8) (St.mk [AV.str s_1349, jj, jj, AV.view (0 : Nat) (0 : Nat) Option.none, jj, jj, AV.bool (Prod.fst a_1352), jj, jj, jj, jj, jj, jj, jj, jj, jj, jj, jj, jj, jj, jj, jj, jj, jj, jj, jj, jj, jj, jj, jj, jj, jj, jj, jj, jj, jj, jj, jj, jj, jj, jj, jj, jj, jj, jj, jj, jj, jj, jj, jj, jj, jj, jj, jj, jj, jj, jj, jj, jj, jj, jj, jj, jj, jj, jj, jj, jj, jj, jj, jj, jj, jj, jj, jj, jj, jj, jj, jj] [AO.row (Ty.list (Ty.prod Ty.str (Ty.prod Ty.str Ty.str))) (Prod.snd a_1351)] (0 : Nat))) (cellarerlaw07_RelationParses_res r) (cellarerlaw07_RelationParses_out r))) t) h (fun t h => ?_) (fun t1365 h1365 K1365 => ?_)
    ·
      rcases t with t_1359 | t_1360
      · replace h := W.inl (h)
        refine W.elimL (?_)
        exact (Option.some.inj h).symm
      · replace h := W.inr (h)
        refine W.elimR (?_)
        refine W.bind h fun a_1361 ha_1361 h => ?_
        refine W.call 0 100000 (by kernel_rfl) (relation_All_con ha_1361) (by kernel_rfl) ?_
        refine W.cond 0 100000 h (by kernel_rfl) (fun h => ?_) (fun h => ?_)
        ·
          refine W.yes 0 100000 (by kernel_rfl) ?_
          refine W.yes 0 100000 (by kernel_rfl) ?_
          refine W.yes 0 100000 (by kernel_rfl) ?_
          refine W.yes 0 100000 (by kernel_rfl) ?_
          refine W.yes 0 100000 (by kernel_rfl) ?_
          refine W.bind h fun a_1362 ha_1362 h => ?_
          refine W.call 0 100000 (by kernel_rfl) (cellarerlaw07_awake_con ha_1362) (by kernel_rfl) ?_
          refine W.yes 0 100000 (by kernel_rfl) ?_
          exact W.retT 0 100000 h (by kernel_rfl)
        ·
          refine W.no 0 100000 (by kernel_rfl) ?_
          refine W.no 0 100000 (by kernel_rfl) ?_
          refine W.cond 0 100000 h (by kernel_rfl) (fun h => ?_) (fun h => ?_)
          ·
            refine W.yes 0 100000 (by kernel_rfl) ?_
            refine W.yes 0 100000 (by kernel_rfl) ?_
            refine W.no 0 100000 (by kernel_rfl) ?_
            refine W.yes 0 100000 (by kernel_rfl) ?_
            refine W.no 0 100000 (by kernel_rfl) ?_
            refine W.cond 0 100000 h (by kernel_rfl) (fun h => ?_) (fun h => ?_)
            ·
              refine W.bind h fun a_1363 ha_1363 h => ?_
              refine W.call 0 100000 (by kernel_rfl) (cellarerlaw07_awake_con ha_1363) (by kernel_rfl) ?_
              refine W.yes 0 100000 (by kernel_rfl) ?_
              exact W.retT 0 100000 h (by kernel_rfl)
            ·
              refine W.no 0 100000 (by kernel_rfl) ?_
              exact W.retT 0 100000 h (by kernel_rfl)
          ·
            refine W.no 0 100000 (by kernel_rfl) ?_
            refine W.no 0 100000 (by kernel_rfl) ?_
            refine W.no 0 100000 (by kernel_rfl) ?_
            refine W.no 0 100000 (by kernel_rfl) ?_
            refine W.no 0 100000 (by kernel_rfl) ?_
            refine W.no 0 100000 (by kernel_rfl) ?_
            refine W.no 0 100000 (by kernel_rfl) ?_
            exact W.retT 0 100000 h (by kernel_rfl)
    · refine W.next 0 7 (by kernel_rfl) ?_
      refine W.bind h1365 fun a_1355 ha_1355 h1365 => ?_
      refine W.call 1 100000 (by kernel_rfl) (cellarerref07_Same_con ha_1355) (by kernel_rfl) ?_
      refine W.cond 1 100000 h1365 (by kernel_rfl) (fun h1365 => ?_) (fun h1365 => ?_)
      ·
        refine W.yes 1 100000 (by kernel_rfl) ?_
        refine W.yes 1 100000 (by kernel_rfl) ?_
        refine W.yes 1 100000 (by kernel_rfl) ?_
        refine W.yes 1 100000 (by kernel_rfl) ?_
        refine W.yes 1 100000 (by kernel_rfl) ?_
        refine W.yes 1 100000 (by kernel_rfl) ?_
        refine W.yes 1 100000 (by kernel_rfl) ?_
        refine W.yes 1 100000 (by kernel_rfl) ?_
        refine W.yes 1 100000 (by kernel_rfl) ?_
        refine W.yes 1 100000 (by kernel_rfl) ?_
        refine W.yes 1 100000 (by kernel_rfl) ?_
        refine W.yes 1 100000 (by kernel_rfl) ?_
        refine W.yes 1 100000 (by kernel_rfl) ?_
        refine W.yes 1 100000 (by kernel_rfl) ?_
        refine W.yes 1 100000 (by kernel_rfl) ?_
        cases h1365; exact W.retK 1 100000 K1365 (by kernel_rfl)
      ·
        refine W.no 1 100000 (by kernel_rfl) ?_
        refine W.no 1 100000 (by kernel_rfl) ?_
        refine W.bind h1365 fun a_1356 ha_1356 h1365 => ?_
        refine W.call 1 100000 (by kernel_rfl) (cellarerlaw07_is_con ha_1356) (by kernel_rfl) ?_
        refine W.no 1 100000 (by kernel_rfl) ?_
        refine W.no 1 100000 (by kernel_rfl) ?_
        refine W.cond 1 100000 h1365 (by kernel_rfl) (fun h1365 => ?_) (fun h1365 => ?_)
        ·
          refine W.yes 1 100000 (by kernel_rfl) ?_
          refine W.yes 1 100000 (by kernel_rfl) ?_
          refine W.yes 1 100000 (by kernel_rfl) ?_
          refine W.yes 1 100000 (by kernel_rfl) ?_
          refine W.yes 1 100000 (by kernel_rfl) ?_
          refine W.yes 1 100000 (by kernel_rfl) ?_
          refine W.yes 1 100000 (by kernel_rfl) ?_
          refine W.yes 1 100000 (by kernel_rfl) ?_
          refine W.yes 1 100000 (by kernel_rfl) ?_
          refine W.yes 1 100000 (by kernel_rfl) ?_
          cases h1365; exact W.retK 1 100000 K1365 (by kernel_rfl)
        ·
          refine W.no 1 100000 (by kernel_rfl) ?_
          refine W.no 1 100000 (by kernel_rfl) ?_
          refine W.bind h1365 fun a_1357 ha_1357 h1365 => ?_
          refine W.call 1 100000 (by kernel_rfl) (cellarerref07_SameList_con ha_1357) (by kernel_rfl) ?_
          refine W.no 1 100000 (by kernel_rfl) ?_
          refine W.no 1 100000 (by kernel_rfl) ?_
          refine W.cond 1 100000 h1365 (by kernel_rfl) (fun h1365 => ?_) (fun h1365 => ?_)
          ·
            refine W.yes 1 100000 (by kernel_rfl) ?_
            refine W.yes 1 100000 (by kernel_rfl) ?_
            refine W.yes 1 100000 (by kernel_rfl) ?_
            refine W.yes 1 100000 (by kernel_rfl) ?_
            refine W.yes 1 100000 (by kernel_rfl) ?_
            cases h1365; exact W.retK 1 100000 K1365 (by kernel_rfl)
          ·
            refine W.no 1 100000 (by kernel_rfl) ?_
            refine W.no 1 100000 (by kernel_rfl) ?_
            refine W.bind h1365 fun a_1358 ha_1358 h1365 => ?_
            refine W.call 1 100000 (by kernel_rfl) (cellarerlaw07_is_con ha_1358) (by kernel_rfl) ?_
            refine W.no 1 100000 (by kernel_rfl) ?_
            refine W.no 1 100000 (by kernel_rfl) ?_
            refine W.cond 1 100000 h1365 (by kernel_rfl) (fun h1365 => ?_) (fun h1365 => ?_)
            ·
              cases h1365; exact W.retK 1 100000 K1365 (by kernel_rfl)
            ·
              cases h1365; exact W.at 1 100000 [] [0, 3, 6] (by kernel_rfl) K1365

theorem cellarerlaw07_RelationLists_con {l_1368 : List (List UInt8 × List UInt8 × List UInt8)} {r : Bool} (h : cellarerlaw07_RelationLists l_1368 = some r) : Con Go.Proofs.Tryd.prog 7 [AV.list (Ty.prod Ty.str (Ty.prod Ty.str Ty.str)) l_1368 Bool.false] [] (cellarerlaw07_RelationLists_res r) (cellarerlaw07_RelationLists_out r) := by
  refine W.con (by kernel_rfl) ?_
  unfold cellarerlaw07_RelationLists at h
  refine W.bind h fun a_1369 ha_1369 h => ?_
  refine W.call 0 100000 (by kernel_rfl) (cellarerlaw07_few_con ha_1369) (by kernel_rfl) ?_
  refine W.cond 0 100000 h (by kernel_rfl) (fun h => ?_) (fun h => ?_)
  ·
    refine W.bind h fun a_1370 ha_1370 h => ?_
    refine W.call 0 100000 (by kernel_rfl) (cellarerlaw07_awake_con ha_1370) (by kernel_rfl) ?_
    exact W.retT 0 100000 h (by kernel_rfl)
  ·
    refine W.bind h fun a_1371 ha_1371 h => ?_
    refine W.call 0 100000 (by kernel_rfl) (relation_List_con ha_1371) (by kernel_rfl) ?_
    refine W.bind h fun a_1372 ha_1372 h => ?_
    refine W.call 0 100000 (by kernel_rfl) (cellarerref07_List_con ha_1372) (by kernel_rfl) ?_
    refine W.join (fun t => (Sum.elim (fun t_1373 => r = (Bool.false)) (fun t_1374 => Walk Go.Proofs.Tryd.prog 7 (Cfg.mk Mode.run (seqTodo Go.Proofs.Tryd.prog 7 6) (St.mk [AV.list (Ty.prod Ty.str (Ty.prod Ty.str Ty.str)) l_1368 Bool.false, jj, jj, AV.str (Prod.fst a_1371), AV.int IntKind.i64 (Prod.snd a_1371), jj, jj, jj, jj, jj, jj, jj, jj, jj, jj, jj, jj, jj, jj, jj, jj, jj, jj, jj, jj, jj, jj, jj, jj, jj, jj, jj, jj, jj, jj, jj, jj, jj, jj, jj, jj, jj, jj, jj, jj, jj, jj, jj, jj, jj] [] (0 : Nat))) (cellarerlaw07_RelationLists_res r) (cellarerlaw07_RelationLists_out r))) t) h (fun t h => ?_) (fun t1380 h1380 K1380 => ?_)
    ·
      rcases t with t_1373 | t_1374
      · replace h := W.inl (h)
        refine W.elimL (?_)
        exact (Option.some.inj h).symm
      · replace h := W.inr (h)
        refine W.elimR (?_)
        refine W.cond 0 100000 h (by kernel_rfl) (fun h => ?_) (fun h => ?_)
        ·
          refine W.bind h fun a_1375 ha_1375 h => ?_
          refine W.call 0 100000 (by kernel_rfl) (cellarerlaw07_awake_con ha_1375) (by kernel_rfl) ?_
          exact W.retT 0 100000 h (by kernel_rfl)
        ·
          refine W.bind h fun a_1376 ha_1376 h => ?_
          refine W.call 0 100000 (by kernel_rfl) (relation_ParseList_con ha_1376) (by kernel_rfl) ?_
          refine W.cond 0 100000 h (by kernel_rfl) (fun h => ?_) (fun h => ?_)
          ·
            refine W.yes 0 100000 (by kernel_rfl) ?_
            refine W.yes 0 100000 (by kernel_rfl) ?_
            refine W.bind h fun a_1377 ha_1377 h => ?_
            refine W.call 0 100000 (by kernel_rfl) (cellarerref07_SameList_con ha_1377) (by kernel_rfl) ?_
            refine W.yes 0 100000 (by kernel_rfl) ?_
            refine W.cond 0 100000 h (by kernel_rfl) (fun h => ?_) (fun h => ?_)
            ·
              refine W.bind h fun a_1378 ha_1378 h => ?_
              refine W.call 0 100000 (by kernel_rfl) (cellarerlaw07_awake_con ha_1378) (by kernel_rfl) ?_
              refine W.yes 0 100000 (by kernel_rfl) ?_
              exact W.retT 0 100000 h (by kernel_rfl)
            ·
              refine W.no 0 100000 (by kernel_rfl) ?_
              exact W.retT 0 100000 h (by kernel_rfl)
          ·
            refine W.no 0 100000 (by kernel_rfl) ?_
            refine W.no 0 100000 (by kernel_rfl) ?_
            refine W.no 0 100000 (by kernel_rfl) ?_
            refine W.no 0 100000 (by kernel_rfl) ?_
            refine W.no 0 100000 (by kernel_rfl) ?_
            exact W.retT 0 100000 h (by kernel_rfl)
    · refine W.next 0 7 (by kernel_rfl) ?_
      refine W.cond 1 100000 h1380 (by kernel_rfl) (fun h1380 => ?_) (fun h1380 => ?_)
      ·
        refine W.yes 1 100000 (by kernel_rfl) ?_
        refine W.yes 1 100000 (by kernel_rfl) ?_
        refine W.yes 1 100000 (by kernel_rfl) ?_
        refine W.yes 1 100000 (by kernel_rfl) ?_
        cases h1380; exact W.retK 1 100000 K1380 (by kernel_rfl)
      ·
        refine W.no 1 100000 (by kernel_rfl) ?_
        refine W.no 1 100000 (by kernel_rfl) ?_
        refine W.no 1 100000 (by kernel_rfl) ?_
        refine W.cond 1 100000 h1380 (by kernel_rfl) (fun h1380 => ?_) (fun h1380 => ?_)
        ·
          cases h1380; exact W.retK 1 100000 K1380 (by kernel_rfl)
        ·
          cases h1380; exact W.at 1 100000 [] [0, 3, 4] (by kernel_rfl) K1380

end Go.Cellar
