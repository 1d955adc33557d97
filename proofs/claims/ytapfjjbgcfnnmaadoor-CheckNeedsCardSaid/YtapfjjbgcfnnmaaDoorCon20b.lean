/- What the program's functions come to: printed by a program, checked by Lean. No condition. -/
import Derived.Test.YtapfjjbgcfnnmaaDoorCon20a
set_option maxRecDepth 4000
set_option synthInstance.maxHeartbeats 2000000
set_option synthInstance.maxSize 100000
set_option linter.unusedVariables false
namespace Go.Cellar
open Go

theorem cellarerref07_All_con {l_677 : List (List (List UInt8 × List UInt8 × List UInt8))} {r : List UInt8 × Int} (h : cellarerref07_All l_677 = some r) : Con Go.Proofs.Tryd.prog 30 [AV.list (Ty.list (Ty.prod Ty.str (Ty.prod Ty.str Ty.str))) l_677 Bool.false] [] (cellarerref07_All_res r) (cellarerref07_All_out r) := by
  refine W.con (by kernel_rfl) ?_
  unfold cellarerref07_All at h
  refine W.at 0 100000 [] [0, 4] (c' := (fun (s_733 : Int) => (Cfg.mk Mode.run (headTodo Go.Proofs.Tryd.prog 30 0) (St.mk [AV.list (Ty.list (Ty.prod Ty.str (Ty.prod Ty.str Ty.str))) l_677 Bool.false, jj, jj, jj, AV.int IntKind.i64 s_733, jj, jj, jj, jj, jj, jj, jj, jj, jj, jj, jj, jj, jj, jj, jj, jj, jj, jj, jj, jj, jj, jj, jj, jj, jj, jj, jj, jj, jj, jj, jj, jj, jj, jj, jj, jj, jj, jj, jj, jj, jj, jj, jj, jj, jj, jj, jj, jj, jj, jj, jj, jj, jj, jj, jj, jj, jj, jj, jj, jj, jj, jj, jj, jj] [] (0 : Nat)))) ((0 : Int))) (by kernel_rfl) ?_
  refine W.loop (fun (s_733 : Int) => (Cfg.mk Mode.run (headTodo Go.Proofs.Tryd.prog 30 0) (St.mk [AV.list (Ty.list (Ty.prod Ty.str (Ty.prod Ty.str Ty.str))) l_677 Bool.false, jj, jj, jj, AV.int IntKind.i64 s_733, jj, jj, jj, jj, jj, jj, jj, jj, jj, jj, jj, jj, jj, jj, jj, jj, jj, jj, jj, jj, jj, jj, jj, jj, jj, jj, jj, jj, jj, jj, jj, jj, jj, jj, jj, jj, jj, jj, jj, jj, jj, jj, jj, jj, jj, jj, jj, jj, jj, jj, jj, jj, jj, jj, jj, jj, jj, jj, jj, jj, jj, jj, jj, jj] [] (0 : Nat)))) (fun t => (Sum.elim (fun t_680 => r = ([], (22 : Int))) (fun t_681 => Walk Go.Proofs.Tryd.prog 30 (Cfg.mk Mode.run ((headTodo Go.Proofs.Tryd.prog 30 0).drop 3) (St.mk [AV.list (Ty.list (Ty.prod Ty.str (Ty.prod Ty.str Ty.str))) l_677 Bool.false, jj, jj, jj, jj, jj, jj, jj, jj, jj, jj, jj, jj, jj, jj, jj, jj, jj, jj, jj, jj, jj, jj, jj, jj, jj, jj, jj, jj, jj, jj, jj, jj, jj, jj, jj, jj, jj, jj, jj, jj, jj, jj, jj, jj, jj, jj, jj, jj, jj, jj, jj, jj, jj, jj, jj, jj, jj, jj, jj, jj, jj, jj, jj, jj, jj, jj, jj, jj] [] (0 : Nat))) (cellarerref07_All_res r) (cellarerref07_All_out r))) t) h (fun t h => ?_) (fun s_733 x727 h727 K727 => ?_)
  ·
    rcases t with t_680 | t_681
    · replace h := W.inl (h)
      refine W.elimL (?_)
      exact (Option.some.inj h).symm
    · replace h := W.inr (h)
      refine W.elimR (?_)
      refine W.cond 0 100000 h (by kernel_rfl) (fun h => ?_) (fun h => ?_)
      ·
        exact W.retT 0 100000 h (by kernel_rfl)
      ·
        refine W.at 0 100000 [Co.own 5 (Ty.str)] [0, 5, 6] (c' := (fun (s_734 : Int × List (List UInt8)) => (Cfg.mk Mode.run (headTodo Go.Proofs.Tryd.prog 30 1) (St.mk [AV.list (Ty.list (Ty.prod Ty.str (Ty.prod Ty.str Ty.str))) l_677 Bool.false, jj, jj, jj, jj, AV.view (0 : Nat) (0 : Nat) Option.none, AV.int IntKind.i64 (Prod.fst s_734), jj, jj, jj, jj, jj, jj, jj, jj, jj, jj, jj, jj, jj, jj, jj, jj, jj, jj, jj, jj, jj, jj, jj, jj, jj, jj, jj, jj, jj, jj, jj, jj, jj, jj, jj, jj, jj, jj, jj, jj, jj, jj, jj, jj, jj, jj, jj, jj, jj, jj, jj, jj, jj, jj, jj, jj, jj, jj, jj, jj, jj, jj] [AO.row Ty.str (Prod.snd s_734)] (0 : Nat)))) ((0 : Int), [])) (by kernel_rfl) ?_
        refine W.loop (fun (s_734 : Int × List (List UInt8)) => (Cfg.mk Mode.run (headTodo Go.Proofs.Tryd.prog 30 1) (St.mk [AV.list (Ty.list (Ty.prod Ty.str (Ty.prod Ty.str Ty.str))) l_677 Bool.false, jj, jj, jj, jj, AV.view (0 : Nat) (0 : Nat) Option.none, AV.int IntKind.i64 (Prod.fst s_734), jj, jj, jj, jj, jj, jj, jj, jj, jj, jj, jj, jj, jj, jj, jj, jj, jj, jj, jj, jj, jj, jj, jj, jj, jj, jj, jj, jj, jj, jj, jj, jj, jj, jj, jj, jj, jj, jj, jj, jj, jj, jj, jj, jj, jj, jj, jj, jj, jj, jj, jj, jj, jj, jj, jj, jj, jj, jj, jj, jj, jj, jj] [AO.row Ty.str (Prod.snd s_734)] (0 : Nat)))) (fun t => (Sum.elim (fun t_721 => r = ([], (1 : Int))) (fun t_723 => Walk Go.Proofs.Tryd.prog 30 (Cfg.mk Mode.run ((headTodo Go.Proofs.Tryd.prog 30 1).drop 3) (St.mk [jj, jj, jj, jj, jj, AV.view (0 : Nat) (0 : Nat) Option.none, jj, jj, jj, jj, jj, jj, jj, jj, jj, jj, jj, jj, jj, jj, jj, jj, jj, jj, jj, jj, jj, jj, jj, jj, jj, jj, jj, jj, jj, jj, jj, jj, jj, jj, jj, jj, jj, jj, jj, jj, jj, jj, jj, jj, jj, jj, jj, jj, jj, jj, jj, jj, jj, jj, jj, jj, jj, jj, jj, jj, jj, jj, jj] [AO.row Ty.str t_723] (0 : Nat))) (cellarerref07_All_res r) (cellarerref07_All_out r))) t) h (fun t h => ?_) (fun s_734 x726 h726 K726 => ?_)
        ·
          rcases t with t_721 | t_723
          · replace h := W.inl (h)
            refine W.elimL (?_)
            exact (Option.some.inj h).symm
          · replace h := W.inr (h)
            refine W.elimR (?_)
            refine W.bind h fun a_724 ha_724 h => ?_
            refine W.call 0 100000 (by kernel_rfl) (cellarerref06_Join_con ha_724) (by kernel_rfl) ?_
            exact W.retT 0 100000 h (by kernel_rfl)
        · unfold cellarerref07_All_b2 at h726
          refine W.cond 2 100000 h726 (by kernel_rfl) (fun h726 => ?_) (fun h726 => ?_)
          ·
            refine W.at 2 100000 [Co.own 7 (Ty.str)] [0, 5, 6, 7, 8] (c' := (fun (s_735 : Int × List (List UInt8)) => (Cfg.mk Mode.run (headTodo Go.Proofs.Tryd.prog 30 2) (St.mk [AV.list (Ty.list (Ty.prod Ty.str (Ty.prod Ty.str Ty.str))) l_677 Bool.false, jj, jj, jj, jj, AV.view (0 : Nat) (0 : Nat) Option.none, AV.int IntKind.i64 (Prod.fst s_734), AV.view (1 : Nat) (0 : Nat) Option.none, AV.int IntKind.i64 (Prod.fst s_735), jj, jj, jj, jj, jj, jj, jj, jj, jj, jj, jj, jj, jj, jj, jj, jj, jj, jj, jj, jj, jj, jj, jj, jj, jj, jj, jj, jj, jj, jj, jj, jj, jj, jj, jj, jj, jj, jj, jj, jj, jj, jj, jj, jj, jj, jj, jj, jj, jj, jj, jj, jj, jj, jj, jj, jj, jj, jj, jj, jj] [AO.row Ty.str (Prod.snd s_734), AO.row Ty.str (Prod.snd s_735)] (0 : Nat)))) ((0 : Int), [])) (by kernel_rfl) ?_
            refine W.loop (fun (s_735 : Int × List (List UInt8)) => (Cfg.mk Mode.run (headTodo Go.Proofs.Tryd.prog 30 2) (St.mk [AV.list (Ty.list (Ty.prod Ty.str (Ty.prod Ty.str Ty.str))) l_677 Bool.false, jj, jj, jj, jj, AV.view (0 : Nat) (0 : Nat) Option.none, AV.int IntKind.i64 (Prod.fst s_734), AV.view (1 : Nat) (0 : Nat) Option.none, AV.int IntKind.i64 (Prod.fst s_735), jj, jj, jj, jj, jj, jj, jj, jj, jj, jj, jj, jj, jj, jj, jj, jj, jj, jj, jj, jj, jj, jj, jj, jj, jj, jj, jj, jj, jj, jj, jj, jj, jj, jj, jj, jj, jj, jj, jj, jj, jj, jj, jj, jj, jj, jj, jj, jj, jj, jj, jj, jj, jj, jj, jj, jj, jj, jj, jj, jj] [AO.row Ty.str (Prod.snd s_734), AO.row Ty.str (Prod.snd s_735)] (0 : Nat)))) (fun t => (Sum.elim (fun t_716 => r = ([], (1 : Int))) (fun t_718 => Walk Go.Proofs.Tryd.prog 30 (Cfg.mk Mode.run ((headTodo Go.Proofs.Tryd.prog 30 2).drop 3) (St.mk [AV.list (Ty.list (Ty.prod Ty.str (Ty.prod Ty.str Ty.str))) l_677 Bool.false, jj, jj, jj, jj, AV.view (0 : Nat) (0 : Nat) Option.none, AV.int IntKind.i64 (Prod.fst s_734), AV.view (1 : Nat) (0 : Nat) Option.none, jj, jj, jj, jj, jj, jj, jj, jj, jj, jj, jj, jj, jj, jj, jj, jj, jj, jj, jj, jj, jj, jj, jj, jj, jj, jj, jj, jj, jj, jj, jj, jj, jj, jj, jj, jj, jj, jj, jj, jj, jj, jj, jj, jj, jj, jj, jj, jj, jj, jj, jj, jj, jj, jj, jj, jj, jj, jj, jj, jj, jj] [AO.row Ty.str (Prod.snd s_734), AO.row Ty.str t_718] (0 : Nat))) (cellarerref07_All_res r) (cellarerref07_All_out r))) t) h726 (fun t h726 => ?_) (fun s_735 x721 h721 K721 => ?_)
            ·
              rcases t with t_716 | t_718
              · replace h726 := W.inl (h726)
                refine W.elimL (?_)
                cases h726; exact K726
              · replace h726 := W.inr (h726)
                refine W.elimR (?_)
                refine W.cond 2 100000 h726 (by kernel_rfl) (fun h726 => ?_) (fun h726 => ?_)
                ·
                  cases h726; exact W.retK 2 100000 K726 (by kernel_rfl)
                ·
                  refine W.bind h726 fun a_719 ha_719 h726 => ?_
                  refine W.call 2 100000 (by kernel_rfl) (cellarerref06_Join_con ha_719) (by kernel_rfl) ?_
                  refine W.needT 2 100000 h726 (by kernel_rfl) (fun h726 => ?_)
                  cases h726; exact W.at 2 100000 [Co.own 5 (Ty.str)] [0, 5, 6] (by kernel_rfl) K726
            · unfold cellarerref07_All_b1 at h721
              refine W.needT 7 100000 h721 (by kernel_rfl) (fun h721 => ?_)
              refine W.cond 7 100000 h721 (by kernel_rfl) (fun h721 => ?_) (fun h721 => ?_)
              ·
                refine W.needT 7 100000 h721 (by kernel_rfl) (fun h721 => ?_)
                refine W.needT 7 100000 h721 (by kernel_rfl) (fun h721 => ?_)
                refine W.bind h721 fun a_714 ha_714 h721 => ?_
                refine W.call 7 100000 (by kernel_rfl) (cellarerref07_Right_con ha_714) (by kernel_rfl) ?_
                refine W.cond 7 100000 h721 (by kernel_rfl) (fun h721 => ?_) (fun h721 => ?_)
                ·
                  cases h721; exact W.retK 7 100000 K721 (by kernel_rfl)
                ·
                  refine W.needT 7 100000 h721 (by kernel_rfl) (fun h721 => ?_)
                  refine W.needT 7 100000 h721 (by kernel_rfl) (fun h721 => ?_)
                  refine W.bind h721 fun a_715 ha_715 h721 => ?_
                  refine W.call 7 100000 (by kernel_rfl) (cellarerref07_Text_con ha_715) (by kernel_rfl) ?_
                  refine W.needT 7 100000 h721 (by kernel_rfl) (fun h721 => ?_)
                  cases h721; exact W.at 7 100000 [Co.own 7 (Ty.str)] [0, 5, 6, 7, 8] (by kernel_rfl) K721
              ·
                cases h721; exact W.at 7 100000 [] [0, 5, 6, 7] (by kernel_rfl) K721
          ·
            cases h726; exact W.at 2 100000 [] [5] (by kernel_rfl) K726
  · unfold cellarerref07_All_b0 at h727
    refine W.cond 2 100000 h727 (by kernel_rfl) (fun h727 => ?_) (fun h727 => ?_)
    ·
      refine W.needT 2 100000 h727 (by kernel_rfl) (fun h727 => ?_)
      refine W.cond 2 100000 h727 (by kernel_rfl) (fun h727 => ?_) (fun h727 => ?_)
      ·
        cases h727; exact W.retK 2 100000 K727 (by kernel_rfl)
      ·
        cases h727; exact W.at 2 100000 [] [0, 4] (by kernel_rfl) K727
    ·
      cases h727; exact W.at 2 100000 [] [0] (by kernel_rfl) K727

theorem cellarerlaw11_Few_con {l_737 : List (List UInt8 × List UInt8 × Bool × List UInt8 × List (List UInt8 × List UInt8) × List (List UInt8 × Int × List (List UInt8)))} {r : Bool} (h : cellarerlaw11_Few l_737 = some r) : Con Go.Proofs.Tryd.prog 31 [AV.list (Ty.prod Ty.str (Ty.prod Ty.str (Ty.prod Ty.bool (Ty.prod Ty.str (Ty.prod (Ty.list (Ty.prod Ty.str Ty.str)) (Ty.list (Ty.prod Ty.str (Ty.prod (Ty.int IntKind.i64) (Ty.list Ty.str))))))))) l_737 Bool.false] [] (cellarerlaw11_Few_res r) (cellarerlaw11_Few_out r) := by
  refine W.con (by kernel_rfl) ?_
  unfold cellarerlaw11_Few at h
  refine W.cond 0 100000 h (by kernel_rfl) (fun h => ?_) (fun h => ?_)
  ·
    exact W.retT 0 100000 h (by kernel_rfl)
  ·
    refine W.at 0 100000 [] [0, 3, 4] (c' := (fun (s_798 : Int × Int) => (Cfg.mk Mode.run (headTodo Go.Proofs.Tryd.prog 31 0) (St.mk [AV.list (Ty.prod Ty.str (Ty.prod Ty.str (Ty.prod Ty.bool (Ty.prod Ty.str (Ty.prod (Ty.list (Ty.prod Ty.str Ty.str)) (Ty.list (Ty.prod Ty.str (Ty.prod (Ty.int IntKind.i64) (Ty.list Ty.str))))))))) l_737 Bool.false, jj, jj, AV.int IntKind.i64 (Prod.fst s_798), AV.int IntKind.i64 (Prod.snd s_798), jj, jj, jj, jj, jj, jj, jj, jj, jj, jj, jj, jj, jj, jj, jj, jj, jj, jj, jj, jj, jj, jj, jj, jj, jj, jj, jj, jj, jj, jj, jj, jj, jj, jj, jj, jj, jj, jj, jj, jj, jj, jj, jj, jj, jj, jj, jj, jj, jj, jj, jj, jj, jj, jj, jj, jj, jj, jj, jj, jj, jj, jj, jj, jj, jj, jj, jj, jj, jj, jj, jj, jj, jj, jj, jj, jj, jj, jj, jj, jj, jj, jj, jj, jj, jj, jj, jj, jj, jj, jj, jj, jj, jj, jj, jj, jj, jj, jj, jj, jj, jj, jj, jj, jj, jj, jj, jj, jj, jj, jj, jj, jj, jj, jj, jj, jj, jj, jj, jj, jj, jj, jj, jj, jj, jj, jj, jj, jj, jj, jj, jj, jj, jj] [] (0 : Nat)))) ((0 : Int), (0 : Int))) (by kernel_rfl) ?_
    refine W.loop (fun (s_798 : Int × Int) => (Cfg.mk Mode.run (headTodo Go.Proofs.Tryd.prog 31 0) (St.mk [AV.list (Ty.prod Ty.str (Ty.prod Ty.str (Ty.prod Ty.bool (Ty.prod Ty.str (Ty.prod (Ty.list (Ty.prod Ty.str Ty.str)) (Ty.list (Ty.prod Ty.str (Ty.prod (Ty.int IntKind.i64) (Ty.list Ty.str))))))))) l_737 Bool.false, jj, jj, AV.int IntKind.i64 (Prod.fst s_798), AV.int IntKind.i64 (Prod.snd s_798), jj, jj, jj, jj, jj, jj, jj, jj, jj, jj, jj, jj, jj, jj, jj, jj, jj, jj, jj, jj, jj, jj, jj, jj, jj, jj, jj, jj, jj, jj, jj, jj, jj, jj, jj, jj, jj, jj, jj, jj, jj, jj, jj, jj, jj, jj, jj, jj, jj, jj, jj, jj, jj, jj, jj, jj, jj, jj, jj, jj, jj, jj, jj, jj, jj, jj, jj, jj, jj, jj, jj, jj, jj, jj, jj, jj, jj, jj, jj, jj, jj, jj, jj, jj, jj, jj, jj, jj, jj, jj, jj, jj, jj, jj, jj, jj, jj, jj, jj, jj, jj, jj, jj, jj, jj, jj, jj, jj, jj, jj, jj, jj, jj, jj, jj, jj, jj, jj, jj, jj, jj, jj, jj, jj, jj, jj, jj, jj, jj, jj, jj, jj, jj] [] (0 : Nat)))) (fun t => (Sum.elim (fun t_789 => r = (Bool.false)) (fun t_790 => Walk Go.Proofs.Tryd.prog 31 (Cfg.mk Mode.run ((headTodo Go.Proofs.Tryd.prog 31 0).drop 3) (St.mk [jj, jj, jj, jj, jj, jj, jj, jj, jj, jj, jj, jj, jj, jj, jj, jj, jj, jj, jj, jj, jj, jj, jj, jj, jj, jj, jj, jj, jj, jj, jj, jj, jj, jj, jj, jj, jj, jj, jj, jj, jj, jj, jj, jj, jj, jj, jj, jj, jj, jj, jj, jj, jj, jj, jj, jj, jj, jj, jj, jj, jj, jj, jj, jj, jj, jj, jj, jj, jj, jj, jj, jj, jj, jj, jj, jj, jj, jj, jj, jj, jj, jj, jj, jj, jj, jj, jj, jj, jj, jj, jj, jj, jj, jj, jj, jj, jj, jj, jj, jj, jj, jj, jj, jj, jj, jj, jj, jj, jj, jj, jj, jj, jj, jj, jj, jj, jj, jj, jj, jj, jj, jj, jj, jj, jj, jj, jj, jj, jj, jj, jj, jj, jj, jj, jj, jj, jj, jj] [] (0 : Nat))) (cellarerlaw11_Few_res r) (cellarerlaw11_Few_out r))) t) h (fun t h => ?_) (fun s_798 x792 h792 K792 => ?_)
    ·
      rcases t with t_789 | t_790
      · replace h := W.inl (h)
        refine W.elimL (?_)
        exact (Option.some.inj h).symm
      · replace h := W.inr (h)
        refine W.elimR (?_)
        exact W.retT 0 100000 h (by kernel_rfl)
    · unfold cellarerlaw11_Few_b3 at h792
      refine W.cond 2 100000 h792 (by kernel_rfl) (fun h792 => ?_) (fun h792 => ?_)
      ·
        refine W.needT 2 100000 h792 (by kernel_rfl) (fun h792 => ?_)
        refine W.join (fun t => (Sum.elim (fun t_741 => r = (Bool.false)) (fun t_742 => Walk Go.Proofs.Tryd.prog 31 (Cfg.mk Mode.run (seqTodo Go.Proofs.Tryd.prog 31 11) (St.mk [AV.list (Ty.prod Ty.str (Ty.prod Ty.str (Ty.prod Ty.bool (Ty.prod Ty.str (Ty.prod (Ty.list (Ty.prod Ty.str Ty.str)) (Ty.list (Ty.prod Ty.str (Ty.prod (Ty.int IntKind.i64) (Ty.list Ty.str))))))))) l_737 Bool.false, jj, jj, AV.int IntKind.i64 (Prod.fst s_798), AV.int IntKind.i64 (Prod.snd s_798), AV.ptr (0 : Nat) (0 : Nat), jj, jj, jj, jj, jj, jj, jj, jj, jj, jj, jj, jj, jj, jj, jj, jj, jj, jj, jj, jj, jj, jj, jj, jj, jj, jj, jj, jj, jj, jj, jj, jj, jj, jj, jj, jj, jj, jj, jj, jj, jj, jj, jj, jj, jj, jj, jj, jj, jj, jj, jj, jj, jj, jj, jj, jj, jj, jj, jj, jj, jj, jj, jj, jj, jj, jj, jj, jj, jj, jj, jj, jj, jj, jj, jj, jj, jj, jj, jj, jj, jj, jj, jj, jj, jj, jj, jj, jj, jj, jj, jj, jj, jj, jj, jj, jj, jj, jj, jj, jj, jj, jj, jj, jj, jj, jj, jj, jj, jj, jj, jj, jj, jj, jj, jj, jj, jj, jj, jj, jj, jj, jj, jj, jj, jj, jj, jj, jj, jj, jj, jj, jj] [AO.box [AV.str (Prod.fst (List.getD l_737 (Int.toNat (Prod.snd s_798)) ([], [], Bool.false, [], [], []))), AV.str (Prod.fst (Prod.snd (List.getD l_737 (Int.toNat (Prod.snd s_798)) ([], [], Bool.false, [], [], [])))), AV.bool (Prod.fst (Prod.snd (Prod.snd (List.getD l_737 (Int.toNat (Prod.snd s_798)) ([], [], Bool.false, [], [], []))))), AV.str (Prod.fst (Prod.snd (Prod.snd (Prod.snd (List.getD l_737 (Int.toNat (Prod.snd s_798)) ([], [], Bool.false, [], [], [])))))), AV.list (Ty.prod Ty.str Ty.str) (Prod.fst (Prod.snd (Prod.snd (Prod.snd (Prod.snd (List.getD l_737 (Int.toNat (Prod.snd s_798)) ([], [], Bool.false, [], [], []))))))) Bool.false, AV.list (Ty.prod Ty.str (Ty.prod (Ty.int IntKind.i64) (Ty.list Ty.str))) (Prod.snd (Prod.snd (Prod.snd (Prod.snd (Prod.snd (List.getD l_737 (Int.toNat (Prod.snd s_798)) ([], [], Bool.false, [], [], []))))))) Bool.false]] (0 : Nat))) (cellarerlaw11_Few_res r) (cellarerlaw11_Few_out r))) t) h792 (fun t h792 => ?_) (fun t789 h789 K789 => ?_)
        ·
          rcases t with t_741 | t_742
          · replace h792 := W.inl (h792)
            refine W.elimL (?_)
            cases h792; exact K792
          · replace h792 := W.inr (h792)
            refine W.elimR (?_)
            refine W.at 2 100000 [] [0, 3, 4, 5, 6] (c' := (fun (s_799 : Int) => (Cfg.mk Mode.run (headTodo Go.Proofs.Tryd.prog 31 1) (St.mk [AV.list (Ty.prod Ty.str (Ty.prod Ty.str (Ty.prod Ty.bool (Ty.prod Ty.str (Ty.prod (Ty.list (Ty.prod Ty.str Ty.str)) (Ty.list (Ty.prod Ty.str (Ty.prod (Ty.int IntKind.i64) (Ty.list Ty.str))))))))) l_737 Bool.false, jj, jj, AV.int IntKind.i64 (Prod.fst s_798), AV.int IntKind.i64 (Prod.snd s_798), AV.ptr (0 : Nat) (0 : Nat), AV.int IntKind.i64 s_799, jj, jj, jj, jj, jj, jj, jj, jj, jj, jj, jj, jj, jj, jj, jj, jj, jj, jj, jj, jj, jj, jj, jj, jj, jj, jj, jj, jj, jj, jj, jj, jj, jj, jj, jj, jj, jj, jj, jj, jj, jj, jj, jj, jj, jj, jj, jj, jj, jj, jj, jj, jj, jj, jj, jj, jj, jj, jj, jj, jj, jj, jj, jj, jj, jj, jj, jj, jj, jj, jj, jj, jj, jj, jj, jj, jj, jj, jj, jj, jj, jj, jj, jj, jj, jj, jj, jj, jj, jj, jj, jj, jj, jj, jj, jj, jj, jj, jj, jj, jj, jj, jj, jj, jj, jj, jj, jj, jj, jj, jj, jj, jj, jj, jj, jj, jj, jj, jj, jj, jj, jj, jj, jj, jj, jj, jj, jj, jj, jj, jj, jj] [AO.box [AV.str (Prod.fst (List.getD l_737 (Int.toNat (Prod.snd s_798)) ([], [], Bool.false, [], [], []))), AV.str (Prod.fst (Prod.snd (List.getD l_737 (Int.toNat (Prod.snd s_798)) ([], [], Bool.false, [], [], [])))), AV.bool (Prod.fst (Prod.snd (Prod.snd (List.getD l_737 (Int.toNat (Prod.snd s_798)) ([], [], Bool.false, [], [], []))))), AV.str (Prod.fst (Prod.snd (Prod.snd (Prod.snd (List.getD l_737 (Int.toNat (Prod.snd s_798)) ([], [], Bool.false, [], [], [])))))), AV.list (Ty.prod Ty.str Ty.str) (Prod.fst (Prod.snd (Prod.snd (Prod.snd (Prod.snd (List.getD l_737 (Int.toNat (Prod.snd s_798)) ([], [], Bool.false, [], [], []))))))) Bool.false, AV.list (Ty.prod Ty.str (Ty.prod (Ty.int IntKind.i64) (Ty.list Ty.str))) (Prod.snd (Prod.snd (Prod.snd (Prod.snd (Prod.snd (List.getD l_737 (Int.toNat (Prod.snd s_798)) ([], [], Bool.false, [], [], []))))))) Bool.false]] (0 : Nat)))) ((0 : Int))) (by kernel_rfl) ?_
            refine W.loop (fun (s_799 : Int) => (Cfg.mk Mode.run (headTodo Go.Proofs.Tryd.prog 31 1) (St.mk [AV.list (Ty.prod Ty.str (Ty.prod Ty.str (Ty.prod Ty.bool (Ty.prod Ty.str (Ty.prod (Ty.list (Ty.prod Ty.str Ty.str)) (Ty.list (Ty.prod Ty.str (Ty.prod (Ty.int IntKind.i64) (Ty.list Ty.str))))))))) l_737 Bool.false, jj, jj, AV.int IntKind.i64 (Prod.fst s_798), AV.int IntKind.i64 (Prod.snd s_798), AV.ptr (0 : Nat) (0 : Nat), AV.int IntKind.i64 s_799, jj, jj, jj, jj, jj, jj, jj, jj, jj, jj, jj, jj, jj, jj, jj, jj, jj, jj, jj, jj, jj, jj, jj, jj, jj, jj, jj, jj, jj, jj, jj, jj, jj, jj, jj, jj, jj, jj, jj, jj, jj, jj, jj, jj, jj, jj, jj, jj, jj, jj, jj, jj, jj, jj, jj, jj, jj, jj, jj, jj, jj, jj, jj, jj, jj, jj, jj, jj, jj, jj, jj, jj, jj, jj, jj, jj, jj, jj, jj, jj, jj, jj, jj, jj, jj, jj, jj, jj, jj, jj, jj, jj, jj, jj, jj, jj, jj, jj, jj, jj, jj, jj, jj, jj, jj, jj, jj, jj, jj, jj, jj, jj, jj, jj, jj, jj, jj, jj, jj, jj, jj, jj, jj, jj, jj, jj, jj, jj, jj, jj, jj] [AO.box [AV.str (Prod.fst (List.getD l_737 (Int.toNat (Prod.snd s_798)) ([], [], Bool.false, [], [], []))), AV.str (Prod.fst (Prod.snd (List.getD l_737 (Int.toNat (Prod.snd s_798)) ([], [], Bool.false, [], [], [])))), AV.bool (Prod.fst (Prod.snd (Prod.snd (List.getD l_737 (Int.toNat (Prod.snd s_798)) ([], [], Bool.false, [], [], []))))), AV.str (Prod.fst (Prod.snd (Prod.snd (Prod.snd (List.getD l_737 (Int.toNat (Prod.snd s_798)) ([], [], Bool.false, [], [], [])))))), AV.list (Ty.prod Ty.str Ty.str) (Prod.fst (Prod.snd (Prod.snd (Prod.snd (Prod.snd (List.getD l_737 (Int.toNat (Prod.snd s_798)) ([], [], Bool.false, [], [], []))))))) Bool.false, AV.list (Ty.prod Ty.str (Ty.prod (Ty.int IntKind.i64) (Ty.list Ty.str))) (Prod.snd (Prod.snd (Prod.snd (Prod.snd (Prod.snd (List.getD l_737 (Int.toNat (Prod.snd s_798)) ([], [], Bool.false, [], [], []))))))) Bool.false]] (0 : Nat)))) (fun t => (Sum.elim (fun t_753 => r = (Bool.false)) (fun t_754 => Walk Go.Proofs.Tryd.prog 31 (Cfg.mk Mode.run ((headTodo Go.Proofs.Tryd.prog 31 1).drop 3) (St.mk [AV.list (Ty.prod Ty.str (Ty.prod Ty.str (Ty.prod Ty.bool (Ty.prod Ty.str (Ty.prod (Ty.list (Ty.prod Ty.str Ty.str)) (Ty.list (Ty.prod Ty.str (Ty.prod (Ty.int IntKind.i64) (Ty.list Ty.str))))))))) l_737 Bool.false, jj, jj, AV.int IntKind.i64 (Prod.fst s_798), AV.int IntKind.i64 (Prod.snd s_798), AV.ptr (0 : Nat) (0 : Nat), jj, jj, jj, jj, jj, jj, jj, jj, jj, jj, jj, jj, jj, jj, jj, jj, jj, jj, jj, jj, jj, jj, jj, jj, jj, jj, jj, jj, jj, jj, jj, jj, jj, jj, jj, jj, jj, jj, jj, jj, jj, jj, jj, jj, jj, jj, jj, jj, jj, jj, jj, jj, jj, jj, jj, jj, jj, jj, jj, jj, jj, jj, jj, jj, jj, jj, jj, jj, jj, jj, jj, jj, jj, jj, jj, jj, jj, jj, jj, jj, jj, jj, jj, jj, jj, jj, jj, jj, jj, jj, jj, jj, jj, jj, jj, jj, jj, jj, jj, jj, jj, jj, jj, jj, jj, jj, jj, jj, jj, jj, jj, jj, jj, jj, jj, jj, jj, jj, jj, jj, jj, jj, jj, jj, jj, jj, jj, jj, jj, jj, jj, jj] [AO.box [AV.str (Prod.fst (List.getD l_737 (Int.toNat (Prod.snd s_798)) ([], [], Bool.false, [], [], []))), AV.str (Prod.fst (Prod.snd (List.getD l_737 (Int.toNat (Prod.snd s_798)) ([], [], Bool.false, [], [], [])))), AV.bool (Prod.fst (Prod.snd (Prod.snd (List.getD l_737 (Int.toNat (Prod.snd s_798)) ([], [], Bool.false, [], [], []))))), AV.str (Prod.fst (Prod.snd (Prod.snd (Prod.snd (List.getD l_737 (Int.toNat (Prod.snd s_798)) ([], [], Bool.false, [], [], [])))))), AV.list (Ty.prod Ty.str Ty.str) (Prod.fst (Prod.snd (Prod.snd (Prod.snd (Prod.snd (List.getD l_737 (Int.toNat (Prod.snd s_798)) ([], [], Bool.false, [], [], []))))))) Bool.false, AV.list (Ty.prod Ty.str (Ty.prod (Ty.int IntKind.i64) (Ty.list Ty.str))) (Prod.snd (Prod.snd (Prod.snd (Prod.snd (Prod.snd (List.getD l_737 (Int.toNat (Prod.snd s_798)) ([], [], Bool.false, [], [], []))))))) Bool.false]] (0 : Nat))) (cellarerlaw11_Few_res r) (cellarerlaw11_Few_out r))) t) h792 (fun t h792 => ?_) (fun s_799 x788 h788 K788 => ?_)
            ·
              rcases t with t_753 | t_754
              · replace h792 := W.inl (h792)
                refine W.elimL (?_)
                cases h792; exact K792
              · replace h792 := W.inr (h792)
                refine W.elimR (?_)
                refine W.at 2 100000 [] [0, 3, 4, 5, 7] (c' := (fun (s_800 : Int × Int) => (Cfg.mk Mode.run (headTodo Go.Proofs.Tryd.prog 31 2) (St.mk [AV.list (Ty.prod Ty.str (Ty.prod Ty.str (Ty.prod Ty.bool (Ty.prod Ty.str (Ty.prod (Ty.list (Ty.prod Ty.str Ty.str)) (Ty.list (Ty.prod Ty.str (Ty.prod (Ty.int IntKind.i64) (Ty.list Ty.str))))))))) l_737 Bool.false, jj, jj, AV.int IntKind.i64 (Prod.fst s_800), AV.int IntKind.i64 (Prod.snd s_798), AV.ptr (0 : Nat) (0 : Nat), jj, AV.int IntKind.i64 (Prod.snd s_800), jj, jj, jj, jj, jj, jj, jj, jj, jj, jj, jj, jj, jj, jj, jj, jj, jj, jj, jj, jj, jj, jj, jj, jj, jj, jj, jj, jj, jj, jj, jj, jj, jj, jj, jj, jj, jj, jj, jj, jj, jj, jj, jj, jj, jj, jj, jj, jj, jj, jj, jj, jj, jj, jj, jj, jj, jj, jj, jj, jj, jj, jj, jj, jj, jj, jj, jj, jj, jj, jj, jj, jj, jj, jj, jj, jj, jj, jj, jj, jj, jj, jj, jj, jj, jj, jj, jj, jj, jj, jj, jj, jj, jj, jj, jj, jj, jj, jj, jj, jj, jj, jj, jj, jj, jj, jj, jj, jj, jj, jj, jj, jj, jj, jj, jj, jj, jj, jj, jj, jj, jj, jj, jj, jj, jj, jj, jj, jj, jj, jj] [AO.box [AV.str (Prod.fst (List.getD l_737 (Int.toNat (Prod.snd s_798)) ([], [], Bool.false, [], [], []))), AV.str (Prod.fst (Prod.snd (List.getD l_737 (Int.toNat (Prod.snd s_798)) ([], [], Bool.false, [], [], [])))), AV.bool (Prod.fst (Prod.snd (Prod.snd (List.getD l_737 (Int.toNat (Prod.snd s_798)) ([], [], Bool.false, [], [], []))))), AV.str (Prod.fst (Prod.snd (Prod.snd (Prod.snd (List.getD l_737 (Int.toNat (Prod.snd s_798)) ([], [], Bool.false, [], [], [])))))), AV.list (Ty.prod Ty.str Ty.str) (Prod.fst (Prod.snd (Prod.snd (Prod.snd (Prod.snd (List.getD l_737 (Int.toNat (Prod.snd s_798)) ([], [], Bool.false, [], [], []))))))) Bool.false, AV.list (Ty.prod Ty.str (Ty.prod (Ty.int IntKind.i64) (Ty.list Ty.str))) (Prod.snd (Prod.snd (Prod.snd (Prod.snd (Prod.snd (List.getD l_737 (Int.toNat (Prod.snd s_798)) ([], [], Bool.false, [], [], []))))))) Bool.false]] (0 : Nat)))) (Prod.fst s_798, (0 : Int))) (by kernel_rfl) ?_
                refine W.loop (fun (s_800 : Int × Int) => (Cfg.mk Mode.run (headTodo Go.Proofs.Tryd.prog 31 2) (St.mk [AV.list (Ty.prod Ty.str (Ty.prod Ty.str (Ty.prod Ty.bool (Ty.prod Ty.str (Ty.prod (Ty.list (Ty.prod Ty.str Ty.str)) (Ty.list (Ty.prod Ty.str (Ty.prod (Ty.int IntKind.i64) (Ty.list Ty.str))))))))) l_737 Bool.false, jj, jj, AV.int IntKind.i64 (Prod.fst s_800), AV.int IntKind.i64 (Prod.snd s_798), AV.ptr (0 : Nat) (0 : Nat), jj, AV.int IntKind.i64 (Prod.snd s_800), jj, jj, jj, jj, jj, jj, jj, jj, jj, jj, jj, jj, jj, jj, jj, jj, jj, jj, jj, jj, jj, jj, jj, jj, jj, jj, jj, jj, jj, jj, jj, jj, jj, jj, jj, jj, jj, jj, jj, jj, jj, jj, jj, jj, jj, jj, jj, jj, jj, jj, jj, jj, jj, jj, jj, jj, jj, jj, jj, jj, jj, jj, jj, jj, jj, jj, jj, jj, jj, jj, jj, jj, jj, jj, jj, jj, jj, jj, jj, jj, jj, jj, jj, jj, jj, jj, jj, jj, jj, jj, jj, jj, jj, jj, jj, jj, jj, jj, jj, jj, jj, jj, jj, jj, jj, jj, jj, jj, jj, jj, jj, jj, jj, jj, jj, jj, jj, jj, jj, jj, jj, jj, jj, jj, jj, jj, jj, jj, jj, jj] [AO.box [AV.str (Prod.fst (List.getD l_737 (Int.toNat (Prod.snd s_798)) ([], [], Bool.false, [], [], []))), AV.str (Prod.fst (Prod.snd (List.getD l_737 (Int.toNat (Prod.snd s_798)) ([], [], Bool.false, [], [], [])))), AV.bool (Prod.fst (Prod.snd (Prod.snd (List.getD l_737 (Int.toNat (Prod.snd s_798)) ([], [], Bool.false, [], [], []))))), AV.str (Prod.fst (Prod.snd (Prod.snd (Prod.snd (List.getD l_737 (Int.toNat (Prod.snd s_798)) ([], [], Bool.false, [], [], [])))))), AV.list (Ty.prod Ty.str Ty.str) (Prod.fst (Prod.snd (Prod.snd (Prod.snd (Prod.snd (List.getD l_737 (Int.toNat (Prod.snd s_798)) ([], [], Bool.false, [], [], []))))))) Bool.false, AV.list (Ty.prod Ty.str (Ty.prod (Ty.int IntKind.i64) (Ty.list Ty.str))) (Prod.snd (Prod.snd (Prod.snd (Prod.snd (Prod.snd (List.getD l_737 (Int.toNat (Prod.snd s_798)) ([], [], Bool.false, [], [], []))))))) Bool.false]] (0 : Nat)))) (fun t => (Sum.elim (fun t_783 => r = (Bool.false)) (fun t_785 => Walk Go.Proofs.Tryd.prog 31 (Cfg.mk Mode.run ((headTodo Go.Proofs.Tryd.prog 31 2).drop 3) (St.mk [AV.list (Ty.prod Ty.str (Ty.prod Ty.str (Ty.prod Ty.bool (Ty.prod Ty.str (Ty.prod (Ty.list (Ty.prod Ty.str Ty.str)) (Ty.list (Ty.prod Ty.str (Ty.prod (Ty.int IntKind.i64) (Ty.list Ty.str))))))))) l_737 Bool.false, jj, jj, AV.int IntKind.i64 t_785, AV.int IntKind.i64 (Prod.snd s_798), AV.ptr (0 : Nat) (0 : Nat), jj, jj, jj, jj, jj, jj, jj, jj, jj, jj, jj, jj, jj, jj, jj, jj, jj, jj, jj, jj, jj, jj, jj, jj, jj, jj, jj, jj, jj, jj, jj, jj, jj, jj, jj, jj, jj, jj, jj, jj, jj, jj, jj, jj, jj, jj, jj, jj, jj, jj, jj, jj, jj, jj, jj, jj, jj, jj, jj, jj, jj, jj, jj, jj, jj, jj, jj, jj, jj, jj, jj, jj, jj, jj, jj, jj, jj, jj, jj, jj, jj, jj, jj, jj, jj, jj, jj, jj, jj, jj, jj, jj, jj, jj, jj, jj, jj, jj, jj, jj, jj, jj, jj, jj, jj, jj, jj, jj, jj, jj, jj, jj, jj, jj, jj, jj, jj, jj, jj, jj, jj, jj, jj, jj, jj, jj, jj, jj, jj, jj, jj, jj] [AO.box [AV.str (Prod.fst (List.getD l_737 (Int.toNat (Prod.snd s_798)) ([], [], Bool.false, [], [], []))), AV.str (Prod.fst (Prod.snd (List.getD l_737 (Int.toNat (Prod.snd s_798)) ([], [], Bool.false, [], [], [])))), AV.bool (Prod.fst (Prod.snd (Prod.snd (List.getD l_737 (Int.toNat (Prod.snd s_798)) ([], [], Bool.false, [], [], []))))), AV.str (Prod.fst (Prod.snd (Prod.snd (Prod.snd (List.getD l_737 (Int.toNat (Prod.snd s_798)) ([], [], Bool.false, [], [], [])))))), AV.list (Ty.prod Ty.str Ty.str) (Prod.fst (Prod.snd (Prod.snd (Prod.snd (Prod.snd (List.getD l_737 (Int.toNat (Prod.snd s_798)) ([], [], Bool.false, [], [], []))))))) Bool.false, AV.list (Ty.prod Ty.str (Ty.prod (Ty.int IntKind.i64) (Ty.list Ty.str))) (Prod.snd (Prod.snd (Prod.snd (Prod.snd (Prod.snd (List.getD l_737 (Int.toNat (Prod.snd s_798)) ([], [], Bool.false, [], [], []))))))) Bool.false]] (0 : Nat))) (cellarerlaw11_Few_res r) (cellarerlaw11_Few_out r))) t) h792 (fun t h792 => ?_) (fun s_800 x787 h787 K787 => ?_)
                ·
                  rcases t with t_783 | t_785
                  · replace h792 := W.inl (h792)
                    refine W.elimL (?_)
                    cases h792; exact K792
                  · replace h792 := W.inr (h792)
                    refine W.elimR (?_)
                    refine W.cond 2 100000 h792 (by kernel_rfl) (fun h792 => ?_) (fun h792 => ?_)
                    ·
                      cases h792; exact W.retK 2 100000 K792 (by kernel_rfl)
                    ·
                      cases h792; exact W.at 2 100000 [] [0, 3, 4] (by kernel_rfl) K792
                · unfold cellarerlaw11_Few_b2 at h787
                  refine W.cond 7 100000 h787 (by kernel_rfl) (fun h787 => ?_) (fun h787 => ?_)
                  ·
                    refine W.join (fun t => (Sum.elim (fun t_765 => r = (Bool.false)) (fun t_766 => Walk Go.Proofs.Tryd.prog 31 (Cfg.mk Mode.run (seqTodo Go.Proofs.Tryd.prog 31 26) (St.mk [AV.list (Ty.prod Ty.str (Ty.prod Ty.str (Ty.prod Ty.bool (Ty.prod Ty.str (Ty.prod (Ty.list (Ty.prod Ty.str Ty.str)) (Ty.list (Ty.prod Ty.str (Ty.prod (Ty.int IntKind.i64) (Ty.list Ty.str))))))))) l_737 Bool.false, jj, jj, AV.int IntKind.i64 (Prod.fst s_800), AV.int IntKind.i64 (Prod.snd s_798), AV.ptr (0 : Nat) (0 : Nat), jj, AV.int IntKind.i64 (Prod.snd s_800), jj, jj, jj, jj, jj, jj, jj, jj, jj, jj, jj, jj, jj, jj, jj, jj, jj, jj, jj, jj, jj, jj, jj, jj, jj, jj, jj, jj, jj, jj, jj, jj, jj, jj, jj, jj, jj, jj, jj, jj, jj, jj, jj, jj, jj, jj, jj, jj, jj, jj, jj, jj, jj, jj, jj, jj, jj, jj, jj, jj, jj, jj, jj, jj, jj, jj, jj, jj, jj, jj, jj, jj, jj, jj, jj, jj, jj, jj, jj, jj, jj, jj, jj, jj, jj, jj, jj, jj, jj, jj, jj, jj, jj, jj, jj, jj, jj, jj, jj, jj, jj, jj, jj, jj, jj, jj, jj, jj, jj, jj, jj, jj, jj, jj, jj, jj, jj, jj, jj, jj, jj, jj, jj, jj, jj, jj, jj, jj, jj, jj] [AO.box [AV.str (Prod.fst (List.getD l_737 (Int.toNat (Prod.snd s_798)) ([], [], Bool.false, [], [], []))), AV.str (Prod.fst (Prod.snd (List.getD l_737 (Int.toNat (Prod.snd s_798)) ([], [], Bool.false, [], [], [])))), AV.bool (Prod.fst (Prod.snd (Prod.snd (List.getD l_737 (Int.toNat (Prod.snd s_798)) ([], [], Bool.false, [], [], []))))), AV.str (Prod.fst (Prod.snd (Prod.snd (Prod.snd (List.getD l_737 (Int.toNat (Prod.snd s_798)) ([], [], Bool.false, [], [], [])))))), AV.list (Ty.prod Ty.str Ty.str) (Prod.fst (Prod.snd (Prod.snd (Prod.snd (Prod.snd (List.getD l_737 (Int.toNat (Prod.snd s_798)) ([], [], Bool.false, [], [], []))))))) Bool.false, AV.list (Ty.prod Ty.str (Ty.prod (Ty.int IntKind.i64) (Ty.list Ty.str))) (Prod.snd (Prod.snd (Prod.snd (Prod.snd (Prod.snd (List.getD l_737 (Int.toNat (Prod.snd s_798)) ([], [], Bool.false, [], [], []))))))) Bool.false]] (0 : Nat))) (cellarerlaw11_Few_res r) (cellarerlaw11_Few_out r))) t) h787 (fun t h787 => ?_) (fun t783 h783 K783 => ?_)
                    ·
                      rcases t with t_765 | t_766
                      · replace h787 := W.inl (h787)
                        refine W.elimL (?_)
                        cases h787; exact K787
                      · replace h787 := W.inr (h787)
                        refine W.elimR (?_)
                        refine W.at 7 100000 [] [0, 3, 4, 5, 7, 8] (c' := (fun (s_801 : Int × Int) => (Cfg.mk Mode.run (headTodo Go.Proofs.Tryd.prog 31 3) (St.mk [AV.list (Ty.prod Ty.str (Ty.prod Ty.str (Ty.prod Ty.bool (Ty.prod Ty.str (Ty.prod (Ty.list (Ty.prod Ty.str Ty.str)) (Ty.list (Ty.prod Ty.str (Ty.prod (Ty.int IntKind.i64) (Ty.list Ty.str))))))))) l_737 Bool.false, jj, jj, AV.int IntKind.i64 (Prod.fst s_801), AV.int IntKind.i64 (Prod.snd s_798), AV.ptr (0 : Nat) (0 : Nat), jj, AV.int IntKind.i64 (Prod.snd s_800), AV.int IntKind.i64 (Prod.snd s_801), jj, jj, jj, jj, jj, jj, jj, jj, jj, jj, jj, jj, jj, jj, jj, jj, jj, jj, jj, jj, jj, jj, jj, jj, jj, jj, jj, jj, jj, jj, jj, jj, jj, jj, jj, jj, jj, jj, jj, jj, jj, jj, jj, jj, jj, jj, jj, jj, jj, jj, jj, jj, jj, jj, jj, jj, jj, jj, jj, jj, jj, jj, jj, jj, jj, jj, jj, jj, jj, jj, jj, jj, jj, jj, jj, jj, jj, jj, jj, jj, jj, jj, jj, jj, jj, jj, jj, jj, jj, jj, jj, jj, jj, jj, jj, jj, jj, jj, jj, jj, jj, jj, jj, jj, jj, jj, jj, jj, jj, jj, jj, jj, jj, jj, jj, jj, jj, jj, jj, jj, jj, jj, jj, jj, jj, jj, jj, jj, jj] [AO.box [AV.str (Prod.fst (List.getD l_737 (Int.toNat (Prod.snd s_798)) ([], [], Bool.false, [], [], []))), AV.str (Prod.fst (Prod.snd (List.getD l_737 (Int.toNat (Prod.snd s_798)) ([], [], Bool.false, [], [], [])))), AV.bool (Prod.fst (Prod.snd (Prod.snd (List.getD l_737 (Int.toNat (Prod.snd s_798)) ([], [], Bool.false, [], [], []))))), AV.str (Prod.fst (Prod.snd (Prod.snd (Prod.snd (List.getD l_737 (Int.toNat (Prod.snd s_798)) ([], [], Bool.false, [], [], [])))))), AV.list (Ty.prod Ty.str Ty.str) (Prod.fst (Prod.snd (Prod.snd (Prod.snd (Prod.snd (List.getD l_737 (Int.toNat (Prod.snd s_798)) ([], [], Bool.false, [], [], []))))))) Bool.false, AV.list (Ty.prod Ty.str (Ty.prod (Ty.int IntKind.i64) (Ty.list Ty.str))) (Prod.snd (Prod.snd (Prod.snd (Prod.snd (Prod.snd (List.getD l_737 (Int.toNat (Prod.snd s_798)) ([], [], Bool.false, [], [], []))))))) Bool.false]] (0 : Nat)))) (Prod.fst s_800, (0 : Int))) (by kernel_rfl) ?_
                        refine W.loop (fun (s_801 : Int × Int) => (Cfg.mk Mode.run (headTodo Go.Proofs.Tryd.prog 31 3) (St.mk [AV.list (Ty.prod Ty.str (Ty.prod Ty.str (Ty.prod Ty.bool (Ty.prod Ty.str (Ty.prod (Ty.list (Ty.prod Ty.str Ty.str)) (Ty.list (Ty.prod Ty.str (Ty.prod (Ty.int IntKind.i64) (Ty.list Ty.str))))))))) l_737 Bool.false, jj, jj, AV.int IntKind.i64 (Prod.fst s_801), AV.int IntKind.i64 (Prod.snd s_798), AV.ptr (0 : Nat) (0 : Nat), jj, AV.int IntKind.i64 (Prod.snd s_800), AV.int IntKind.i64 (Prod.snd s_801), jj, jj, jj, jj, jj, jj, jj, jj, jj, jj, jj, jj, jj, jj, jj, jj, jj, jj, jj, jj, jj, jj, jj, jj, jj, jj, jj, jj, jj, jj, jj, jj, jj, jj, jj, jj, jj, jj, jj, jj, jj, jj, jj, jj, jj, jj, jj, jj, jj, jj, jj, jj, jj, jj, jj, jj, jj, jj, jj, jj, jj, jj, jj, jj, jj, jj, jj, jj, jj, jj, jj, jj, jj, jj, jj, jj, jj, jj, jj, jj, jj, jj, jj, jj, jj, jj, jj, jj, jj, jj, jj, jj, jj, jj, jj, jj, jj, jj, jj, jj, jj, jj, jj, jj, jj, jj, jj, jj, jj, jj, jj, jj, jj, jj, jj, jj, jj, jj, jj, jj, jj, jj, jj, jj, jj, jj, jj, jj, jj] [AO.box [AV.str (Prod.fst (List.getD l_737 (Int.toNat (Prod.snd s_798)) ([], [], Bool.false, [], [], []))), AV.str (Prod.fst (Prod.snd (List.getD l_737 (Int.toNat (Prod.snd s_798)) ([], [], Bool.false, [], [], [])))), AV.bool (Prod.fst (Prod.snd (Prod.snd (List.getD l_737 (Int.toNat (Prod.snd s_798)) ([], [], Bool.false, [], [], []))))), AV.str (Prod.fst (Prod.snd (Prod.snd (Prod.snd (List.getD l_737 (Int.toNat (Prod.snd s_798)) ([], [], Bool.false, [], [], [])))))), AV.list (Ty.prod Ty.str Ty.str) (Prod.fst (Prod.snd (Prod.snd (Prod.snd (Prod.snd (List.getD l_737 (Int.toNat (Prod.snd s_798)) ([], [], Bool.false, [], [], []))))))) Bool.false, AV.list (Ty.prod Ty.str (Ty.prod (Ty.int IntKind.i64) (Ty.list Ty.str))) (Prod.snd (Prod.snd (Prod.snd (Prod.snd (Prod.snd (List.getD l_737 (Int.toNat (Prod.snd s_798)) ([], [], Bool.false, [], [], []))))))) Bool.false]] (0 : Nat)))) (fun t => (Sum.elim (fun t_778 => r = (Bool.false)) (fun t_780 => Walk Go.Proofs.Tryd.prog 31 (Cfg.mk Mode.run ((headTodo Go.Proofs.Tryd.prog 31 3).drop 3) (St.mk [AV.list (Ty.prod Ty.str (Ty.prod Ty.str (Ty.prod Ty.bool (Ty.prod Ty.str (Ty.prod (Ty.list (Ty.prod Ty.str Ty.str)) (Ty.list (Ty.prod Ty.str (Ty.prod (Ty.int IntKind.i64) (Ty.list Ty.str))))))))) l_737 Bool.false, jj, jj, AV.int IntKind.i64 t_780, AV.int IntKind.i64 (Prod.snd s_798), AV.ptr (0 : Nat) (0 : Nat), jj, AV.int IntKind.i64 (Prod.snd s_800), jj, jj, jj, jj, jj, jj, jj, jj, jj, jj, jj, jj, jj, jj, jj, jj, jj, jj, jj, jj, jj, jj, jj, jj, jj, jj, jj, jj, jj, jj, jj, jj, jj, jj, jj, jj, jj, jj, jj, jj, jj, jj, jj, jj, jj, jj, jj, jj, jj, jj, jj, jj, jj, jj, jj, jj, jj, jj, jj, jj, jj, jj, jj, jj, jj, jj, jj, jj, jj, jj, jj, jj, jj, jj, jj, jj, jj, jj, jj, jj, jj, jj, jj, jj, jj, jj, jj, jj, jj, jj, jj, jj, jj, jj, jj, jj, jj, jj, jj, jj, jj, jj, jj, jj, jj, jj, jj, jj, jj, jj, jj, jj, jj, jj, jj, jj, jj, jj, jj, jj, jj, jj, jj, jj, jj, jj, jj, jj, jj, jj] [AO.box [AV.str (Prod.fst (List.getD l_737 (Int.toNat (Prod.snd s_798)) ([], [], Bool.false, [], [], []))), AV.str (Prod.fst (Prod.snd (List.getD l_737 (Int.toNat (Prod.snd s_798)) ([], [], Bool.false, [], [], [])))), AV.bool (Prod.fst (Prod.snd (Prod.snd (List.getD l_737 (Int.toNat (Prod.snd s_798)) ([], [], Bool.false, [], [], []))))), AV.str (Prod.fst (Prod.snd (Prod.snd (Prod.snd (List.getD l_737 (Int.toNat (Prod.snd s_798)) ([], [], Bool.false, [], [], [])))))), AV.list (Ty.prod Ty.str Ty.str) (Prod.fst (Prod.snd (Prod.snd (Prod.snd (Prod.snd (List.getD l_737 (Int.toNat (Prod.snd s_798)) ([], [], Bool.false, [], [], []))))))) Bool.false, AV.list (Ty.prod Ty.str (Ty.prod (Ty.int IntKind.i64) (Ty.list Ty.str))) (Prod.snd (Prod.snd (Prod.snd (Prod.snd (Prod.snd (List.getD l_737 (Int.toNat (Prod.snd s_798)) ([], [], Bool.false, [], [], []))))))) Bool.false]] (0 : Nat))) (cellarerlaw11_Few_res r) (cellarerlaw11_Few_out r))) t) h787 (fun t h787 => ?_) (fun s_801 x782 h782 K782 => ?_)
                        ·
                          rcases t with t_778 | t_780
                          · replace h787 := W.inl (h787)
                            refine W.elimL (?_)
                            cases h787; exact K787
                          · replace h787 := W.inr (h787)
                            refine W.elimR (?_)
                            cases h787; exact W.at 7 100000 [] [0, 3, 4, 5, 7] (by kernel_rfl) K787
                        · unfold cellarerlaw11_Few_b1 at h782
                          refine W.needT 11 100000 h782 (by kernel_rfl) (fun h782 => ?_)
                          refine W.cond 11 100000 h782 (by kernel_rfl) (fun h782 => ?_) (fun h782 => ?_)
                          ·
                            refine W.needT 11 100000 h782 (by kernel_rfl) (fun h782 => ?_)
                            refine W.needT 11 100000 h782 (by kernel_rfl) (fun h782 => ?_)
                            refine W.cond 11 100000 h782 (by kernel_rfl) (fun h782 => ?_) (fun h782 => ?_)
                            ·
                              cases h782; exact W.retK 11 100000 K782 (by kernel_rfl)
                            ·
                              cases h782; exact W.at 11 100000 [] [0, 3, 4, 5, 7, 8] (by kernel_rfl) K782
                          ·
                            cases h782; exact W.at 11 100000 [] [0, 3, 4, 5, 7] (by kernel_rfl) K782
                    · refine W.next 7 4 (by kernel_rfl) ?_
                      refine W.needT 11 100000 h783 (by kernel_rfl) (fun h783 => ?_)
                      refine W.cond 11 100000 h783 (by kernel_rfl) (fun h783 => ?_) (fun h783 => ?_)
                      ·
                        refine W.yes 11 100000 (by kernel_rfl) ?_
                        refine W.yes 11 100000 (by kernel_rfl) ?_
                        refine W.yes 11 100000 (by kernel_rfl) ?_
                        refine W.yes 11 100000 (by kernel_rfl) ?_
                        refine W.yes 11 100000 (by kernel_rfl) ?_
                        refine W.yes 11 100000 (by kernel_rfl) ?_
                        refine W.yes 11 100000 (by kernel_rfl) ?_
                        refine W.yes 11 100000 (by kernel_rfl) ?_
                        refine W.yes 11 100000 (by kernel_rfl) ?_
                        cases h783; exact W.retK 11 100000 K783 (by kernel_rfl)
                      ·
                        refine W.no 11 100000 (by kernel_rfl) ?_
                        refine W.no 11 100000 (by kernel_rfl) ?_
                        refine W.no 11 100000 (by kernel_rfl) ?_
                        refine W.needT 11 100000 h783 (by kernel_rfl) (fun h783 => ?_)
                        refine W.no 11 100000 (by kernel_rfl) ?_
                        refine W.no 11 100000 (by kernel_rfl) ?_
                        refine W.no 11 100000 (by kernel_rfl) ?_
                        refine W.no 11 100000 (by kernel_rfl) ?_
                        refine W.no 11 100000 (by kernel_rfl) ?_
                        refine W.cond 11 100000 h783 (by kernel_rfl) (fun h783 => ?_) (fun h783 => ?_)
                        ·
                          cases h783; exact W.retK 11 100000 K783 (by kernel_rfl)
                        ·
                          cases h783; exact W.at 11 100000 [] [0, 3, 4, 5, 7] (by kernel_rfl) K783
                  ·
                    cases h787; exact W.at 7 100000 [] [0, 3, 4, 5] (by kernel_rfl) K787
            · unfold cellarerlaw11_Few_b0 at h788
              refine W.cond 7 100000 h788 (by kernel_rfl) (fun h788 => ?_) (fun h788 => ?_)
              ·
                refine W.needT 7 100000 h788 (by kernel_rfl) (fun h788 => ?_)
                refine W.cond 7 100000 h788 (by kernel_rfl) (fun h788 => ?_) (fun h788 => ?_)
                ·
                  refine W.yes 7 100000 (by kernel_rfl) ?_
                  refine W.yes 7 100000 (by kernel_rfl) ?_
                  refine W.yes 7 100000 (by kernel_rfl) ?_
                  refine W.yes 7 100000 (by kernel_rfl) ?_
                  refine W.yes 7 100000 (by kernel_rfl) ?_
                  refine W.yes 7 100000 (by kernel_rfl) ?_
                  refine W.yes 7 100000 (by kernel_rfl) ?_
                  refine W.yes 7 100000 (by kernel_rfl) ?_
                  refine W.yes 7 100000 (by kernel_rfl) ?_
                  cases h788; exact W.retK 7 100000 K788 (by kernel_rfl)
                ·
                  refine W.no 7 100000 (by kernel_rfl) ?_
                  refine W.no 7 100000 (by kernel_rfl) ?_
                  refine W.no 7 100000 (by kernel_rfl) ?_
                  refine W.needT 7 100000 h788 (by kernel_rfl) (fun h788 => ?_)
                  refine W.no 7 100000 (by kernel_rfl) ?_
                  refine W.no 7 100000 (by kernel_rfl) ?_
                  refine W.no 7 100000 (by kernel_rfl) ?_
                  refine W.no 7 100000 (by kernel_rfl) ?_
                  refine W.no 7 100000 (by kernel_rfl) ?_
                  refine W.cond 7 100000 h788 (by kernel_rfl) (fun h788 => ?_) (fun h788 => ?_)
                  ·
                    cases h788; exact W.retK 7 100000 K788 (by kernel_rfl)
                  ·
                    cases h788; exact W.at 7 100000 [] [0, 3, 4, 5, 6] (by kernel_rfl) K788
              ·
                cases h788; exact W.at 7 100000 [] [0, 3, 4, 5] (by kernel_rfl) K788
        · refine W.next 2 5 (by kernel_rfl) ?_
          refine W.cond 6 100000 h789 (by kernel_rfl) (fun h789 => ?_) (fun h789 => ?_)
          ·
            refine W.yes 6 100000 (by kernel_rfl) ?_
            refine W.yes 6 100000 (by kernel_rfl) ?_
            refine W.yes 6 100000 (by kernel_rfl) ?_
            refine W.yes 6 100000 (by kernel_rfl) ?_
            refine W.yes 6 100000 (by kernel_rfl) ?_
            refine W.yes 6 100000 (by kernel_rfl) ?_
            refine W.yes 6 100000 (by kernel_rfl) ?_
            refine W.yes 6 100000 (by kernel_rfl) ?_
            refine W.yes 6 100000 (by kernel_rfl) ?_
            refine W.yes 6 100000 (by kernel_rfl) ?_
            refine W.yes 6 100000 (by kernel_rfl) ?_
            refine W.yes 6 100000 (by kernel_rfl) ?_
            refine W.yes 6 100000 (by kernel_rfl) ?_
            refine W.yes 6 100000 (by kernel_rfl) ?_
            refine W.yes 6 100000 (by kernel_rfl) ?_
            refine W.yes 6 100000 (by kernel_rfl) ?_
            refine W.yes 6 100000 (by kernel_rfl) ?_
            refine W.yes 6 100000 (by kernel_rfl) ?_
            refine W.yes 6 100000 (by kernel_rfl) ?_
            refine W.yes 6 100000 (by kernel_rfl) ?_
            cases h789; exact W.retK 6 100000 K789 (by kernel_rfl)
          ·
            refine W.no 6 100000 (by kernel_rfl) ?_
            refine W.no 6 100000 (by kernel_rfl) ?_
            refine W.no 6 100000 (by kernel_rfl) ?_
            refine W.no 6 100000 (by kernel_rfl) ?_
            refine W.cond 6 100000 h789 (by kernel_rfl) (fun h789 => ?_) (fun h789 => ?_)
            ·
              refine W.yes 6 100000 (by kernel_rfl) ?_
              refine W.yes 6 100000 (by kernel_rfl) ?_
              refine W.yes 6 100000 (by kernel_rfl) ?_
              refine W.yes 6 100000 (by kernel_rfl) ?_
              refine W.yes 6 100000 (by kernel_rfl) ?_
              refine W.yes 6 100000 (by kernel_rfl) ?_
              refine W.yes 6 100000 (by kernel_rfl) ?_
              refine W.yes 6 100000 (by kernel_rfl) ?_
              refine W.yes 6 100000 (by kernel_rfl) ?_
              refine W.yes 6 100000 (by kernel_rfl) ?_
              refine W.yes 6 100000 (by kernel_rfl) ?_
              refine W.yes 6 100000 (by kernel_rfl) ?_
              refine W.yes 6 100000 (by kernel_rfl) ?_
              refine W.yes 6 100000 (by kernel_rfl) ?_
              refine W.yes 6 100000 (by kernel_rfl) ?_
              cases h789; exact W.retK 6 100000 K789 (by kernel_rfl)
            ·
              refine W.no 6 100000 (by kernel_rfl) ?_
              refine W.no 6 100000 (by kernel_rfl) ?_
              refine W.no 6 100000 (by kernel_rfl) ?_
              refine W.no 6 100000 (by kernel_rfl) ?_
              refine W.cond 6 100000 h789 (by kernel_rfl) (fun h789 => ?_) (fun h789 => ?_)
              ·
                refine W.yes 6 100000 (by kernel_rfl) ?_
                refine W.yes 6 100000 (by kernel_rfl) ?_
                refine W.yes 6 100000 (by kernel_rfl) ?_
                refine W.yes 6 100000 (by kernel_rfl) ?_
                refine W.yes 6 100000 (by kernel_rfl) ?_
                refine W.yes 6 100000 (by kernel_rfl) ?_
                refine W.yes 6 100000 (by kernel_rfl) ?_
                refine W.yes 6 100000 (by kernel_rfl) ?_
                refine W.yes 6 100000 (by kernel_rfl) ?_
                refine W.yes 6 100000 (by kernel_rfl) ?_
                cases h789; exact W.retK 6 100000 K789 (by kernel_rfl)
              ·
                refine W.no 6 100000 (by kernel_rfl) ?_
                refine W.no 6 100000 (by kernel_rfl) ?_
                refine W.no 6 100000 (by kernel_rfl) ?_
                refine W.no 6 100000 (by kernel_rfl) ?_
                refine W.cond 6 100000 h789 (by kernel_rfl) (fun h789 => ?_) (fun h789 => ?_)
                ·
                  refine W.yes 6 100000 (by kernel_rfl) ?_
                  refine W.yes 6 100000 (by kernel_rfl) ?_
                  refine W.yes 6 100000 (by kernel_rfl) ?_
                  refine W.yes 6 100000 (by kernel_rfl) ?_
                  refine W.yes 6 100000 (by kernel_rfl) ?_
                  cases h789; exact W.retK 6 100000 K789 (by kernel_rfl)
                ·
                  refine W.no 6 100000 (by kernel_rfl) ?_
                  refine W.no 6 100000 (by kernel_rfl) ?_
                  refine W.no 6 100000 (by kernel_rfl) ?_
                  refine W.no 6 100000 (by kernel_rfl) ?_
                  refine W.cond 6 100000 h789 (by kernel_rfl) (fun h789 => ?_) (fun h789 => ?_)
                  ·
                    cases h789; exact W.retK 6 100000 K789 (by kernel_rfl)
                  ·
                    cases h789; exact W.at 6 100000 [] [0, 3, 4, 5] (by kernel_rfl) K789
      ·
        cases h792; exact W.at 2 100000 [] [] (by kernel_rfl) K792

theorem cellarerlaw08_Few_con {l_803 : List (List UInt8 × List UInt8 × Int × List (List (List UInt8 × List UInt8 × List UInt8)) × List (List UInt8 × List UInt8 × List UInt8) × List (List UInt8) × List (List UInt8 × List UInt8) × List (List UInt8) × List (List UInt8))} {r : Bool} (h : cellarerlaw08_Few l_803 = some r) : Con Go.Proofs.Tryd.prog 19 [AV.list (Ty.prod Ty.str (Ty.prod Ty.str (Ty.prod (Ty.int IntKind.i64) (Ty.prod (Ty.list (Ty.list (Ty.prod Ty.str (Ty.prod Ty.str Ty.str)))) (Ty.prod (Ty.list (Ty.prod Ty.str (Ty.prod Ty.str Ty.str))) (Ty.prod (Ty.list Ty.str) (Ty.prod (Ty.list (Ty.prod Ty.str Ty.str)) (Ty.prod (Ty.list Ty.str) (Ty.list Ty.str))))))))) l_803 Bool.false] [] (cellarerlaw08_Few_res r) (cellarerlaw08_Few_out r) := by
  refine W.con (by kernel_rfl) ?_
  unfold cellarerlaw08_Few at h
  refine W.cond 0 100000 h (by kernel_rfl) (fun h => ?_) (fun h => ?_)
  ·
    exact W.retT 0 100000 h (by kernel_rfl)
  ·
    refine W.at 0 100000 [] [0, 3, 4] (c' := (fun (s_853 : Int × Int) => (Cfg.mk Mode.run (headTodo Go.Proofs.Tryd.prog 19 0) (St.mk [AV.list (Ty.prod Ty.str (Ty.prod Ty.str (Ty.prod (Ty.int IntKind.i64) (Ty.prod (Ty.list (Ty.list (Ty.prod Ty.str (Ty.prod Ty.str Ty.str)))) (Ty.prod (Ty.list (Ty.prod Ty.str (Ty.prod Ty.str Ty.str))) (Ty.prod (Ty.list Ty.str) (Ty.prod (Ty.list (Ty.prod Ty.str Ty.str)) (Ty.prod (Ty.list Ty.str) (Ty.list Ty.str))))))))) l_803 Bool.false, jj, jj, AV.int IntKind.i64 (Prod.fst s_853), AV.int IntKind.i64 (Prod.snd s_853), jj, jj, jj, jj, jj, jj, jj, jj, jj, jj, jj, jj, jj, jj, jj, jj, jj, jj, jj, jj, jj, jj, jj, jj, jj, jj, jj, jj, jj, jj, jj, jj, jj, jj, jj, jj, jj, jj, jj, jj, jj, jj, jj, jj, jj, jj, jj, jj, jj, jj, jj, jj, jj, jj, jj, jj, jj, jj, jj, jj, jj, jj, jj, jj, jj, jj, jj, jj, jj, jj, jj, jj, jj, jj, jj, jj, jj, jj, jj, jj, jj, jj, jj, jj, jj, jj, jj, jj, jj, jj, jj, jj, jj, jj, jj, jj, jj, jj, jj, jj, jj, jj, jj, jj, jj, jj, jj, jj, jj, jj, jj, jj, jj, jj, jj, jj, jj, jj, jj, jj, jj, jj, jj, jj, jj, jj, jj, jj, jj, jj, jj, jj, jj, jj, jj, jj, jj, jj, jj, jj, jj, jj, jj, jj, jj, jj, jj, jj, jj, jj, jj, jj, jj, jj, jj, jj, jj, jj, jj, jj, jj, jj, jj, jj, jj, jj, jj, jj, jj, jj, jj, jj, jj, jj, jj, jj, jj, jj, jj, jj, jj, jj, jj, jj, jj, jj, jj] [] (0 : Nat)))) ((0 : Int), (0 : Int))) (by kernel_rfl) ?_
    refine W.loop (fun (s_853 : Int × Int) => (Cfg.mk Mode.run (headTodo Go.Proofs.Tryd.prog 19 0) (St.mk [AV.list (Ty.prod Ty.str (Ty.prod Ty.str (Ty.prod (Ty.int IntKind.i64) (Ty.prod (Ty.list (Ty.list (Ty.prod Ty.str (Ty.prod Ty.str Ty.str)))) (Ty.prod (Ty.list (Ty.prod Ty.str (Ty.prod Ty.str Ty.str))) (Ty.prod (Ty.list Ty.str) (Ty.prod (Ty.list (Ty.prod Ty.str Ty.str)) (Ty.prod (Ty.list Ty.str) (Ty.list Ty.str))))))))) l_803 Bool.false, jj, jj, AV.int IntKind.i64 (Prod.fst s_853), AV.int IntKind.i64 (Prod.snd s_853), jj, jj, jj, jj, jj, jj, jj, jj, jj, jj, jj, jj, jj, jj, jj, jj, jj, jj, jj, jj, jj, jj, jj, jj, jj, jj, jj, jj, jj, jj, jj, jj, jj, jj, jj, jj, jj, jj, jj, jj, jj, jj, jj, jj, jj, jj, jj, jj, jj, jj, jj, jj, jj, jj, jj, jj, jj, jj, jj, jj, jj, jj, jj, jj, jj, jj, jj, jj, jj, jj, jj, jj, jj, jj, jj, jj, jj, jj, jj, jj, jj, jj, jj, jj, jj, jj, jj, jj, jj, jj, jj, jj, jj, jj, jj, jj, jj, jj, jj, jj, jj, jj, jj, jj, jj, jj, jj, jj, jj, jj, jj, jj, jj, jj, jj, jj, jj, jj, jj, jj, jj, jj, jj, jj, jj, jj, jj, jj, jj, jj, jj, jj, jj, jj, jj, jj, jj, jj, jj, jj, jj, jj, jj, jj, jj, jj, jj, jj, jj, jj, jj, jj, jj, jj, jj, jj, jj, jj, jj, jj, jj, jj, jj, jj, jj, jj, jj, jj, jj, jj, jj, jj, jj, jj, jj, jj, jj, jj, jj, jj, jj, jj, jj, jj, jj, jj, jj] [] (0 : Nat)))) (fun t => (Sum.elim (fun t_846 => r = (Bool.false)) (fun t_847 => Walk Go.Proofs.Tryd.prog 19 (Cfg.mk Mode.run ((headTodo Go.Proofs.Tryd.prog 19 0).drop 3) (St.mk [jj, jj, jj, jj, jj, jj, jj, jj, jj, jj, jj, jj, jj, jj, jj, jj, jj, jj, jj, jj, jj, jj, jj, jj, jj, jj, jj, jj, jj, jj, jj, jj, jj, jj, jj, jj, jj, jj, jj, jj, jj, jj, jj, jj, jj, jj, jj, jj, jj, jj, jj, jj, jj, jj, jj, jj, jj, jj, jj, jj, jj, jj, jj, jj, jj, jj, jj, jj, jj, jj, jj, jj, jj, jj, jj, jj, jj, jj, jj, jj, jj, jj, jj, jj, jj, jj, jj, jj, jj, jj, jj, jj, jj, jj, jj, jj, jj, jj, jj, jj, jj, jj, jj, jj, jj, jj, jj, jj, jj, jj, jj, jj, jj, jj, jj, jj, jj, jj, jj, jj, jj, jj, jj, jj, jj, jj, jj, jj, jj, jj, jj, jj, jj, jj, jj, jj, jj, jj, jj, jj, jj, jj, jj, jj, jj, jj, jj, jj, jj, jj, jj, jj, jj, jj, jj, jj, jj, jj, jj, jj, jj, jj, jj, jj, jj, jj, jj, jj, jj, jj, jj, jj, jj, jj, jj, jj, jj, jj, jj, jj, jj, jj, jj, jj, jj, jj, jj, jj, jj, jj, jj, jj] [] (0 : Nat))) (cellarerlaw08_Few_res r) (cellarerlaw08_Few_out r))) t) h (fun t h => ?_) (fun s_853 x849 h849 K849 => ?_)
    ·
      rcases t with t_846 | t_847
      · replace h := W.inl (h)
        refine W.elimL (?_)
        exact (Option.some.inj h).symm
      · replace h := W.inr (h)
        refine W.elimR (?_)
        exact W.retT 0 100000 h (by kernel_rfl)
    · unfold cellarerlaw08_Few_b1 at h849
      refine W.cond 2 100000 h849 (by kernel_rfl) (fun h849 => ?_) (fun h849 => ?_)
      ·
        refine W.needT 2 100000 h849 (by kernel_rfl) (fun h849 => ?_)
        refine W.join (fun t => (Sum.elim (fun t_807 => r = (Bool.false)) (fun t_808 => Walk Go.Proofs.Tryd.prog 19 (Cfg.mk Mode.run (seqTodo Go.Proofs.Tryd.prog 19 11) (St.mk [AV.list (Ty.prod Ty.str (Ty.prod Ty.str (Ty.prod (Ty.int IntKind.i64) (Ty.prod (Ty.list (Ty.list (Ty.prod Ty.str (Ty.prod Ty.str Ty.str)))) (Ty.prod (Ty.list (Ty.prod Ty.str (Ty.prod Ty.str Ty.str))) (Ty.prod (Ty.list Ty.str) (Ty.prod (Ty.list (Ty.prod Ty.str Ty.str)) (Ty.prod (Ty.list Ty.str) (Ty.list Ty.str))))))))) l_803 Bool.false, jj, jj, AV.int IntKind.i64 (Prod.fst s_853), AV.int IntKind.i64 (Prod.snd s_853), AV.ptr (0 : Nat) (0 : Nat), jj, jj, jj, jj, jj, jj, jj, jj, jj, jj, jj, jj, jj, jj, jj, jj, jj, jj, jj, jj, jj, jj, jj, jj, jj, jj, jj, jj, jj, jj, jj, jj, jj, jj, jj, jj, jj, jj, jj, jj, jj, jj, jj, jj, jj, jj, jj, jj, jj, jj, jj, jj, jj, jj, jj, jj, jj, jj, jj, jj, jj, jj, jj, jj, jj, jj, jj, jj, jj, jj, jj, jj, jj, jj, jj, jj, jj, jj, jj, jj, jj, jj, jj, jj, jj, jj, jj, jj, jj, jj, jj, jj, jj, jj, jj, jj, jj, jj, jj, jj, jj, jj, jj, jj, jj, jj, jj, jj, jj, jj, jj, jj, jj, jj, jj, jj, jj, jj, jj, jj, jj, jj, jj, jj, jj, jj, jj, jj, jj, jj, jj, jj, jj, jj, jj, jj, jj, jj, jj, jj, jj, jj, jj, jj, jj, jj, jj, jj, jj, jj, jj, jj, jj, jj, jj, jj, jj, jj, jj, jj, jj, jj, jj, jj, jj, jj, jj, jj, jj, jj, jj, jj, jj, jj, jj, jj, jj, jj, jj, jj, jj, jj, jj, jj, jj, jj] [AO.box [AV.str (Prod.fst (List.getD l_803 (Int.toNat (Prod.snd s_853)) ([], [], (0 : Int), [], [], [], [], [], []))), AV.str (Prod.fst (Prod.snd (List.getD l_803 (Int.toNat (Prod.snd s_853)) ([], [], (0 : Int), [], [], [], [], [], [])))), AV.int IntKind.i64 (Prod.fst (Prod.snd (Prod.snd (List.getD l_803 (Int.toNat (Prod.snd s_853)) ([], [], (0 : Int), [], [], [], [], [], []))))), AV.list (Ty.list (Ty.prod Ty.str (Ty.prod Ty.str Ty.str))) (Prod.fst (Prod.snd (Prod.snd (Prod.snd (List.getD l_803 (Int.toNat (Prod.snd s_853)) ([], [], (0 : Int), [], [], [], [], [], [])))))) Bool.false, AV.list (Ty.prod Ty.str (Ty.prod Ty.str Ty.str)) (Prod.fst (Prod.snd (Prod.snd (Prod.snd (Prod.snd (List.getD l_803 (Int.toNat (Prod.snd s_853)) ([], [], (0 : Int), [], [], [], [], [], []))))))) Bool.false, AV.list Ty.str (Prod.fst (Prod.snd (Prod.snd (Prod.snd (Prod.snd (Prod.snd (List.getD l_803 (Int.toNat (Prod.snd s_853)) ([], [], (0 : Int), [], [], [], [], [], [])))))))) Bool.false, AV.list (Ty.prod Ty.str Ty.str) (Prod.fst (Prod.snd (Prod.snd (Prod.snd (Prod.snd (Prod.snd (Prod.snd (List.getD l_803 (Int.toNat (Prod.snd s_853)) ([], [], (0 : Int), [], [], [], [], [], []))))))))) Bool.false, AV.list Ty.str (Prod.fst (Prod.snd (Prod.snd (Prod.snd (Prod.snd (Prod.snd (Prod.snd (Prod.snd (List.getD l_803 (Int.toNat (Prod.snd s_853)) ([], [], (0 : Int), [], [], [], [], [], [])))))))))) Bool.false, AV.list Ty.str (Prod.snd (Prod.snd (Prod.snd (Prod.snd (Prod.snd (Prod.snd (Prod.snd (Prod.snd (List.getD l_803 (Int.toNat (Prod.snd s_853)) ([], [], (0 : Int), [], [], [], [], [], [])))))))))) Bool.false]] (0 : Nat))) (cellarerlaw08_Few_res r) (cellarerlaw08_Few_out r))) t) h849 (fun t h849 => ?_) (fun t846 h846 K846 => ?_)
        ·
          rcases t with t_807 | t_808
          · replace h849 := W.inl (h849)
            refine W.elimL (?_)
            cases h849; exact K849
          · replace h849 := W.inr (h849)
            refine W.elimR (?_)
            refine W.bind h849 fun a_809 ha_809 h849 => ?_
            refine W.call 2 100000 (by kernel_rfl) (cellarerref07_All_con ha_809) (by kernel_rfl) ?_
            refine W.at 2 100000 [] [0, 3, 4, 5, 8] (c' := (fun (s_854 : Int × Int) => (Cfg.mk Mode.run (headTodo Go.Proofs.Tryd.prog 19 1) (St.mk [AV.list (Ty.prod Ty.str (Ty.prod Ty.str (Ty.prod (Ty.int IntKind.i64) (Ty.prod (Ty.list (Ty.list (Ty.prod Ty.str (Ty.prod Ty.str Ty.str)))) (Ty.prod (Ty.list (Ty.prod Ty.str (Ty.prod Ty.str Ty.str))) (Ty.prod (Ty.list Ty.str) (Ty.prod (Ty.list (Ty.prod Ty.str Ty.str)) (Ty.prod (Ty.list Ty.str) (Ty.list Ty.str))))))))) l_803 Bool.false, jj, jj, AV.int IntKind.i64 (Prod.fst s_854), AV.int IntKind.i64 (Prod.snd s_853), AV.ptr (0 : Nat) (0 : Nat), jj, jj, AV.int IntKind.i64 (Prod.snd s_854), jj, jj, jj, jj, jj, jj, jj, jj, jj, jj, jj, jj, jj, jj, jj, jj, jj, jj, jj, jj, jj, jj, jj, jj, jj, jj, jj, jj, jj, jj, jj, jj, jj, jj, jj, jj, jj, jj, jj, jj, jj, jj, jj, jj, jj, jj, jj, jj, jj, jj, jj, jj, jj, jj, jj, jj, jj, jj, jj, jj, jj, jj, jj, jj, jj, jj, jj, jj, jj, jj, jj, jj, jj, jj, jj, jj, jj, jj, jj, jj, jj, jj, jj, jj, jj, jj, jj, jj, jj, jj, jj, jj, jj, jj, jj, jj, jj, jj, jj, jj, jj, jj, jj, jj, jj, jj, jj, jj, jj, jj, jj, jj, jj, jj, jj, jj, jj, jj, jj, jj, jj, jj, jj, jj, jj, jj, jj, jj, jj, jj, jj, jj, jj, jj, jj, jj, jj, jj, jj, jj, jj, jj, jj, jj, jj, jj, jj, jj, jj, jj, jj, jj, jj, jj, jj, jj, jj, jj, jj, jj, jj, jj, jj, jj, jj, jj, jj, jj, jj, jj, jj, jj, jj, jj, jj, jj, jj, jj, jj, jj, jj, jj, jj] [AO.box [AV.str (Prod.fst (List.getD l_803 (Int.toNat (Prod.snd s_853)) ([], [], (0 : Int), [], [], [], [], [], []))), AV.str (Prod.fst (Prod.snd (List.getD l_803 (Int.toNat (Prod.snd s_853)) ([], [], (0 : Int), [], [], [], [], [], [])))), AV.int IntKind.i64 (Prod.fst (Prod.snd (Prod.snd (List.getD l_803 (Int.toNat (Prod.snd s_853)) ([], [], (0 : Int), [], [], [], [], [], []))))), AV.list (Ty.list (Ty.prod Ty.str (Ty.prod Ty.str Ty.str))) (Prod.fst (Prod.snd (Prod.snd (Prod.snd (List.getD l_803 (Int.toNat (Prod.snd s_853)) ([], [], (0 : Int), [], [], [], [], [], [])))))) Bool.false, AV.list (Ty.prod Ty.str (Ty.prod Ty.str Ty.str)) (Prod.fst (Prod.snd (Prod.snd (Prod.snd (Prod.snd (List.getD l_803 (Int.toNat (Prod.snd s_853)) ([], [], (0 : Int), [], [], [], [], [], []))))))) Bool.false, AV.list Ty.str (Prod.fst (Prod.snd (Prod.snd (Prod.snd (Prod.snd (Prod.snd (List.getD l_803 (Int.toNat (Prod.snd s_853)) ([], [], (0 : Int), [], [], [], [], [], [])))))))) Bool.false, AV.list (Ty.prod Ty.str Ty.str) (Prod.fst (Prod.snd (Prod.snd (Prod.snd (Prod.snd (Prod.snd (Prod.snd (List.getD l_803 (Int.toNat (Prod.snd s_853)) ([], [], (0 : Int), [], [], [], [], [], []))))))))) Bool.false, AV.list Ty.str (Prod.fst (Prod.snd (Prod.snd (Prod.snd (Prod.snd (Prod.snd (Prod.snd (Prod.snd (List.getD l_803 (Int.toNat (Prod.snd s_853)) ([], [], (0 : Int), [], [], [], [], [], [])))))))))) Bool.false, AV.list Ty.str (Prod.snd (Prod.snd (Prod.snd (Prod.snd (Prod.snd (Prod.snd (Prod.snd (Prod.snd (List.getD l_803 (Int.toNat (Prod.snd s_853)) ([], [], (0 : Int), [], [], [], [], [], [])))))))))) Bool.false]] (0 : Nat)))) (IntKind.wrap IntKind.i64 (Prod.fst s_853 + IntKind.wrap IntKind.i64 (IntKind.wrap IntKind.i64 (IntKind.wrap IntKind.i64 (IntKind.wrap IntKind.i64 ((20 : Int) + (↑(List.length (Prod.fst (Prod.snd (Prod.snd (Prod.snd (Prod.snd (List.getD l_803 (Int.toNat (Prod.snd s_853)) ([], [], (0 : Int), [], [], [], [], [], [])))))))) : Int)) + if (4000 : Int) < (↑(List.length (Prod.fst (List.getD l_803 (Int.toNat (Prod.snd s_853)) ([], [], (0 : Int), [], [], [], [], [], [])))) : Int) then (4000 : Int) else (↑(List.length (Prod.fst (List.getD l_803 (Int.toNat (Prod.snd s_853)) ([], [], (0 : Int), [], [], [], [], [], [])))) : Int)) + if (4000 : Int) < (↑(List.length (Prod.fst (Prod.snd (List.getD l_803 (Int.toNat (Prod.snd s_853)) ([], [], (0 : Int), [], [], [], [], [], []))))) : Int) then (4000 : Int) else (↑(List.length (Prod.fst (Prod.snd (List.getD l_803 (Int.toNat (Prod.snd s_853)) ([], [], (0 : Int), [], [], [], [], [], []))))) : Int)) + if (4000 : Int) < (↑(List.length (Prod.fst a_809)) : Int) then (4000 : Int) else (↑(List.length (Prod.fst a_809)) : Int))), (0 : Int))) (by kernel_rfl) ?_
            refine W.loop (fun (s_854 : Int × Int) => (Cfg.mk Mode.run (headTodo Go.Proofs.Tryd.prog 19 1) (St.mk [AV.list (Ty.prod Ty.str (Ty.prod Ty.str (Ty.prod (Ty.int IntKind.i64) (Ty.prod (Ty.list (Ty.list (Ty.prod Ty.str (Ty.prod Ty.str Ty.str)))) (Ty.prod (Ty.list (Ty.prod Ty.str (Ty.prod Ty.str Ty.str))) (Ty.prod (Ty.list Ty.str) (Ty.prod (Ty.list (Ty.prod Ty.str Ty.str)) (Ty.prod (Ty.list Ty.str) (Ty.list Ty.str))))))))) l_803 Bool.false, jj, jj, AV.int IntKind.i64 (Prod.fst s_854), AV.int IntKind.i64 (Prod.snd s_853), AV.ptr (0 : Nat) (0 : Nat), jj, jj, AV.int IntKind.i64 (Prod.snd s_854), jj, jj, jj, jj, jj, jj, jj, jj, jj, jj, jj, jj, jj, jj, jj, jj, jj, jj, jj, jj, jj, jj, jj, jj, jj, jj, jj, jj, jj, jj, jj, jj, jj, jj, jj, jj, jj, jj, jj, jj, jj, jj, jj, jj, jj, jj, jj, jj, jj, jj, jj, jj, jj, jj, jj, jj, jj, jj, jj, jj, jj, jj, jj, jj, jj, jj, jj, jj, jj, jj, jj, jj, jj, jj, jj, jj, jj, jj, jj, jj, jj, jj, jj, jj, jj, jj, jj, jj, jj, jj, jj, jj, jj, jj, jj, jj, jj, jj, jj, jj, jj, jj, jj, jj, jj, jj, jj, jj, jj, jj, jj, jj, jj, jj, jj, jj, jj, jj, jj, jj, jj, jj, jj, jj, jj, jj, jj, jj, jj, jj, jj, jj, jj, jj, jj, jj, jj, jj, jj, jj, jj, jj, jj, jj, jj, jj, jj, jj, jj, jj, jj, jj, jj, jj, jj, jj, jj, jj, jj, jj, jj, jj, jj, jj, jj, jj, jj, jj, jj, jj, jj, jj, jj, jj, jj, jj, jj, jj, jj, jj, jj, jj, jj] [AO.box [AV.str (Prod.fst (List.getD l_803 (Int.toNat (Prod.snd s_853)) ([], [], (0 : Int), [], [], [], [], [], []))), AV.str (Prod.fst (Prod.snd (List.getD l_803 (Int.toNat (Prod.snd s_853)) ([], [], (0 : Int), [], [], [], [], [], [])))), AV.int IntKind.i64 (Prod.fst (Prod.snd (Prod.snd (List.getD l_803 (Int.toNat (Prod.snd s_853)) ([], [], (0 : Int), [], [], [], [], [], []))))), AV.list (Ty.list (Ty.prod Ty.str (Ty.prod Ty.str Ty.str))) (Prod.fst (Prod.snd (Prod.snd (Prod.snd (List.getD l_803 (Int.toNat (Prod.snd s_853)) ([], [], (0 : Int), [], [], [], [], [], [])))))) Bool.false, AV.list (Ty.prod Ty.str (Ty.prod Ty.str Ty.str)) (Prod.fst (Prod.snd (Prod.snd (Prod.snd (Prod.snd (List.getD l_803 (Int.toNat (Prod.snd s_853)) ([], [], (0 : Int), [], [], [], [], [], []))))))) Bool.false, AV.list Ty.str (Prod.fst (Prod.snd (Prod.snd (Prod.snd (Prod.snd (Prod.snd (List.getD l_803 (Int.toNat (Prod.snd s_853)) ([], [], (0 : Int), [], [], [], [], [], [])))))))) Bool.false, AV.list (Ty.prod Ty.str Ty.str) (Prod.fst (Prod.snd (Prod.snd (Prod.snd (Prod.snd (Prod.snd (Prod.snd (List.getD l_803 (Int.toNat (Prod.snd s_853)) ([], [], (0 : Int), [], [], [], [], [], []))))))))) Bool.false, AV.list Ty.str (Prod.fst (Prod.snd (Prod.snd (Prod.snd (Prod.snd (Prod.snd (Prod.snd (Prod.snd (List.getD l_803 (Int.toNat (Prod.snd s_853)) ([], [], (0 : Int), [], [], [], [], [], [])))))))))) Bool.false, AV.list Ty.str (Prod.snd (Prod.snd (Prod.snd (Prod.snd (Prod.snd (Prod.snd (Prod.snd (Prod.snd (List.getD l_803 (Int.toNat (Prod.snd s_853)) ([], [], (0 : Int), [], [], [], [], [], [])))))))))) Bool.false]] (0 : Nat)))) (fun t => (Sum.elim (fun t_841 => r = (Bool.false)) (fun t_843 => Walk Go.Proofs.Tryd.prog 19 (Cfg.mk Mode.run ((headTodo Go.Proofs.Tryd.prog 19 1).drop 3) (St.mk [AV.list (Ty.prod Ty.str (Ty.prod Ty.str (Ty.prod (Ty.int IntKind.i64) (Ty.prod (Ty.list (Ty.list (Ty.prod Ty.str (Ty.prod Ty.str Ty.str)))) (Ty.prod (Ty.list (Ty.prod Ty.str (Ty.prod Ty.str Ty.str))) (Ty.prod (Ty.list Ty.str) (Ty.prod (Ty.list (Ty.prod Ty.str Ty.str)) (Ty.prod (Ty.list Ty.str) (Ty.list Ty.str))))))))) l_803 Bool.false, jj, jj, AV.int IntKind.i64 t_843, AV.int IntKind.i64 (Prod.snd s_853), jj, jj, jj, jj, jj, jj, jj, jj, jj, jj, jj, jj, jj, jj, jj, jj, jj, jj, jj, jj, jj, jj, jj, jj, jj, jj, jj, jj, jj, jj, jj, jj, jj, jj, jj, jj, jj, jj, jj, jj, jj, jj, jj, jj, jj, jj, jj, jj, jj, jj, jj, jj, jj, jj, jj, jj, jj, jj, jj, jj, jj, jj, jj, jj, jj, jj, jj, jj, jj, jj, jj, jj, jj, jj, jj, jj, jj, jj, jj, jj, jj, jj, jj, jj, jj, jj, jj, jj, jj, jj, jj, jj, jj, jj, jj, jj, jj, jj, jj, jj, jj, jj, jj, jj, jj, jj, jj, jj, jj, jj, jj, jj, jj, jj, jj, jj, jj, jj, jj, jj, jj, jj, jj, jj, jj, jj, jj, jj, jj, jj, jj, jj, jj, jj, jj, jj, jj, jj, jj, jj, jj, jj, jj, jj, jj, jj, jj, jj, jj, jj, jj, jj, jj, jj, jj, jj, jj, jj, jj, jj, jj, jj, jj, jj, jj, jj, jj, jj, jj, jj, jj, jj, jj, jj, jj, jj, jj, jj, jj, jj, jj, jj, jj, jj, jj, jj, jj] [] (0 : Nat))) (cellarerlaw08_Few_res r) (cellarerlaw08_Few_out r))) t) h849 (fun t h849 => ?_) (fun s_854 x845 h845 K845 => ?_)
            ·
              rcases t with t_841 | t_843
              · replace h849 := W.inl (h849)
                refine W.elimL (?_)
                cases h849; exact K849
              · replace h849 := W.inr (h849)
                refine W.elimR (?_)
                cases h849; exact W.at 2 100000 [] [0, 3, 4] (by kernel_rfl) K849
            · unfold cellarerlaw08_Few_b0 at h845
              refine W.cond 6 100000 h845 (by kernel_rfl) (fun h845 => ?_) (fun h845 => ?_)
              ·
                refine W.join (fun t => (Sum.elim (fun t_823 => r = (Bool.false)) (fun t_824 => Walk Go.Proofs.Tryd.prog 19 (Cfg.mk Mode.run (seqTodo Go.Proofs.Tryd.prog 19 20) (St.mk [AV.list (Ty.prod Ty.str (Ty.prod Ty.str (Ty.prod (Ty.int IntKind.i64) (Ty.prod (Ty.list (Ty.list (Ty.prod Ty.str (Ty.prod Ty.str Ty.str)))) (Ty.prod (Ty.list (Ty.prod Ty.str (Ty.prod Ty.str Ty.str))) (Ty.prod (Ty.list Ty.str) (Ty.prod (Ty.list (Ty.prod Ty.str Ty.str)) (Ty.prod (Ty.list Ty.str) (Ty.list Ty.str))))))))) l_803 Bool.false, jj, jj, AV.int IntKind.i64 (Prod.fst s_854), AV.int IntKind.i64 (Prod.snd s_853), AV.ptr (0 : Nat) (0 : Nat), jj, jj, AV.int IntKind.i64 (Prod.snd s_854), jj, jj, jj, jj, jj, jj, jj, jj, jj, jj, jj, jj, jj, jj, jj, jj, jj, jj, jj, jj, jj, jj, jj, jj, jj, jj, jj, jj, jj, jj, jj, jj, jj, jj, jj, jj, jj, jj, jj, jj, jj, jj, jj, jj, jj, jj, jj, jj, jj, jj, jj, jj, jj, jj, jj, jj, jj, jj, jj, jj, jj, jj, jj, jj, jj, jj, jj, jj, jj, jj, jj, jj, jj, jj, jj, jj, jj, jj, jj, jj, jj, jj, jj, jj, jj, jj, jj, jj, jj, jj, jj, jj, jj, jj, jj, jj, jj, jj, jj, jj, jj, jj, jj, jj, jj, jj, jj, jj, jj, jj, jj, jj, jj, jj, jj, jj, jj, jj, jj, jj, jj, jj, jj, jj, jj, jj, jj, jj, jj, jj, jj, jj, jj, jj, jj, jj, jj, jj, jj, jj, jj, jj, jj, jj, jj, jj, jj, jj, jj, jj, jj, jj, jj, jj, jj, jj, jj, jj, jj, jj, jj, jj, jj, jj, jj, jj, jj, jj, jj, jj, jj, jj, jj, jj, jj, jj, jj, jj, jj, jj, jj, jj, jj] [AO.box [AV.str (Prod.fst (List.getD l_803 (Int.toNat (Prod.snd s_853)) ([], [], (0 : Int), [], [], [], [], [], []))), AV.str (Prod.fst (Prod.snd (List.getD l_803 (Int.toNat (Prod.snd s_853)) ([], [], (0 : Int), [], [], [], [], [], [])))), AV.int IntKind.i64 (Prod.fst (Prod.snd (Prod.snd (List.getD l_803 (Int.toNat (Prod.snd s_853)) ([], [], (0 : Int), [], [], [], [], [], []))))), AV.list (Ty.list (Ty.prod Ty.str (Ty.prod Ty.str Ty.str))) (Prod.fst (Prod.snd (Prod.snd (Prod.snd (List.getD l_803 (Int.toNat (Prod.snd s_853)) ([], [], (0 : Int), [], [], [], [], [], [])))))) Bool.false, AV.list (Ty.prod Ty.str (Ty.prod Ty.str Ty.str)) (Prod.fst (Prod.snd (Prod.snd (Prod.snd (Prod.snd (List.getD l_803 (Int.toNat (Prod.snd s_853)) ([], [], (0 : Int), [], [], [], [], [], []))))))) Bool.false, AV.list Ty.str (Prod.fst (Prod.snd (Prod.snd (Prod.snd (Prod.snd (Prod.snd (List.getD l_803 (Int.toNat (Prod.snd s_853)) ([], [], (0 : Int), [], [], [], [], [], [])))))))) Bool.false, AV.list (Ty.prod Ty.str Ty.str) (Prod.fst (Prod.snd (Prod.snd (Prod.snd (Prod.snd (Prod.snd (Prod.snd (List.getD l_803 (Int.toNat (Prod.snd s_853)) ([], [], (0 : Int), [], [], [], [], [], []))))))))) Bool.false, AV.list Ty.str (Prod.fst (Prod.snd (Prod.snd (Prod.snd (Prod.snd (Prod.snd (Prod.snd (Prod.snd (List.getD l_803 (Int.toNat (Prod.snd s_853)) ([], [], (0 : Int), [], [], [], [], [], [])))))))))) Bool.false, AV.list Ty.str (Prod.snd (Prod.snd (Prod.snd (Prod.snd (Prod.snd (Prod.snd (Prod.snd (Prod.snd (List.getD l_803 (Int.toNat (Prod.snd s_853)) ([], [], (0 : Int), [], [], [], [], [], [])))))))))) Bool.false]] (0 : Nat))) (cellarerlaw08_Few_res r) (cellarerlaw08_Few_out r))) t) h845 (fun t h845 => ?_) (fun t841 h841 K841 => ?_)
                ·
                  rcases t with t_823 | t_824
                  · replace h845 := W.inl (h845)
                    refine W.elimL (?_)
                    cases h845; exact K845
                  · replace h845 := W.inr (h845)
                    refine W.elimR (?_)
                    refine W.join (fun t_826 => Walk Go.Proofs.Tryd.prog 19 (Cfg.mk Mode.run (seqTodo Go.Proofs.Tryd.prog 19 23) (St.mk [AV.list (Ty.prod Ty.str (Ty.prod Ty.str (Ty.prod (Ty.int IntKind.i64) (Ty.prod (Ty.list (Ty.list (Ty.prod Ty.str (Ty.prod Ty.str Ty.str)))) (Ty.prod (Ty.list (Ty.prod Ty.str (Ty.prod Ty.str Ty.str))) (Ty.prod (Ty.list Ty.str) (Ty.prod (Ty.list (Ty.prod Ty.str Ty.str)) (Ty.prod (Ty.list Ty.str) (Ty.list Ty.str))))))))) l_803 Bool.false, jj, jj, AV.int IntKind.i64 t_826, AV.int IntKind.i64 (Prod.snd s_853), AV.ptr (0 : Nat) (0 : Nat), jj, jj, AV.int IntKind.i64 (Prod.snd s_854), jj, jj, jj, jj, jj, jj, jj, jj, jj, jj, jj, jj, jj, jj, jj, jj, jj, jj, jj, jj, jj, jj, jj, jj, jj, jj, jj, jj, jj, jj, jj, jj, jj, jj, jj, jj, jj, jj, jj, jj, jj, jj, jj, jj, jj, jj, jj, jj, jj, jj, jj, jj, jj, jj, jj, jj, jj, jj, jj, jj, jj, jj, jj, jj, jj, jj, jj, jj, jj, jj, jj, jj, jj, jj, jj, jj, jj, jj, jj, jj, jj, jj, jj, jj, jj, jj, jj, jj, jj, jj, jj, jj, jj, jj, jj, jj, jj, jj, jj, jj, jj, jj, jj, jj, jj, jj, jj, jj, jj, jj, jj, jj, jj, jj, jj, jj, jj, jj, jj, jj, jj, jj, jj, jj, jj, jj, jj, jj, jj, jj, jj, jj, jj, jj, jj, jj, jj, jj, jj, jj, jj, jj, jj, jj, jj, jj, jj, jj, jj, jj, jj, jj, jj, jj, jj, jj, jj, jj, jj, jj, jj, jj, jj, jj, jj, jj, jj, jj, jj, jj, jj, jj, jj, jj, jj, jj, jj, jj, jj, jj, jj, jj, jj] [AO.box [AV.str (Prod.fst (List.getD l_803 (Int.toNat (Prod.snd s_853)) ([], [], (0 : Int), [], [], [], [], [], []))), AV.str (Prod.fst (Prod.snd (List.getD l_803 (Int.toNat (Prod.snd s_853)) ([], [], (0 : Int), [], [], [], [], [], [])))), AV.int IntKind.i64 (Prod.fst (Prod.snd (Prod.snd (List.getD l_803 (Int.toNat (Prod.snd s_853)) ([], [], (0 : Int), [], [], [], [], [], []))))), AV.list (Ty.list (Ty.prod Ty.str (Ty.prod Ty.str Ty.str))) (Prod.fst (Prod.snd (Prod.snd (Prod.snd (List.getD l_803 (Int.toNat (Prod.snd s_853)) ([], [], (0 : Int), [], [], [], [], [], [])))))) Bool.false, AV.list (Ty.prod Ty.str (Ty.prod Ty.str Ty.str)) (Prod.fst (Prod.snd (Prod.snd (Prod.snd (Prod.snd (List.getD l_803 (Int.toNat (Prod.snd s_853)) ([], [], (0 : Int), [], [], [], [], [], []))))))) Bool.false, AV.list Ty.str (Prod.fst (Prod.snd (Prod.snd (Prod.snd (Prod.snd (Prod.snd (List.getD l_803 (Int.toNat (Prod.snd s_853)) ([], [], (0 : Int), [], [], [], [], [], [])))))))) Bool.false, AV.list (Ty.prod Ty.str Ty.str) (Prod.fst (Prod.snd (Prod.snd (Prod.snd (Prod.snd (Prod.snd (Prod.snd (List.getD l_803 (Int.toNat (Prod.snd s_853)) ([], [], (0 : Int), [], [], [], [], [], []))))))))) Bool.false, AV.list Ty.str (Prod.fst (Prod.snd (Prod.snd (Prod.snd (Prod.snd (Prod.snd (Prod.snd (Prod.snd (List.getD l_803 (Int.toNat (Prod.snd s_853)) ([], [], (0 : Int), [], [], [], [], [], [])))))))))) Bool.false, AV.list Ty.str (Prod.snd (Prod.snd (Prod.snd (Prod.snd (Prod.snd (Prod.snd (Prod.snd (Prod.snd (List.getD l_803 (Int.toNat (Prod.snd s_853)) ([], [], (0 : Int), [], [], [], [], [], [])))))))))) Bool.false]] (0 : Nat))) (cellarerlaw08_Few_res r) (cellarerlaw08_Few_out r)) h845 (fun t_826 h845 => ?_) (fun t840 h840 K840 => ?_)
                    ·
                      refine W.join (fun t_828 => Walk Go.Proofs.Tryd.prog 19 (Cfg.mk Mode.run (seqTodo Go.Proofs.Tryd.prog 19 25) (St.mk [AV.list (Ty.prod Ty.str (Ty.prod Ty.str (Ty.prod (Ty.int IntKind.i64) (Ty.prod (Ty.list (Ty.list (Ty.prod Ty.str (Ty.prod Ty.str Ty.str)))) (Ty.prod (Ty.list (Ty.prod Ty.str (Ty.prod Ty.str Ty.str))) (Ty.prod (Ty.list Ty.str) (Ty.prod (Ty.list (Ty.prod Ty.str Ty.str)) (Ty.prod (Ty.list Ty.str) (Ty.list Ty.str))))))))) l_803 Bool.false, jj, jj, AV.int IntKind.i64 t_828, AV.int IntKind.i64 (Prod.snd s_853), AV.ptr (0 : Nat) (0 : Nat), jj, jj, AV.int IntKind.i64 (Prod.snd s_854), jj, jj, jj, jj, jj, jj, jj, jj, jj, jj, jj, jj, jj, jj, jj, jj, jj, jj, jj, jj, jj, jj, jj, jj, jj, jj, jj, jj, jj, jj, jj, jj, jj, jj, jj, jj, jj, jj, jj, jj, jj, jj, jj, jj, jj, jj, jj, jj, jj, jj, jj, jj, jj, jj, jj, jj, jj, jj, jj, jj, jj, jj, jj, jj, jj, jj, jj, jj, jj, jj, jj, jj, jj, jj, jj, jj, jj, jj, jj, jj, jj, jj, jj, jj, jj, jj, jj, jj, jj, jj, jj, jj, jj, jj, jj, jj, jj, jj, jj, jj, jj, jj, jj, jj, jj, jj, jj, jj, jj, jj, jj, jj, jj, jj, jj, jj, jj, jj, jj, jj, jj, jj, jj, jj, jj, jj, jj, jj, jj, jj, jj, jj, jj, jj, jj, jj, jj, jj, jj, jj, jj, jj, jj, jj, jj, jj, jj, jj, jj, jj, jj, jj, jj, jj, jj, jj, jj, jj, jj, jj, jj, jj, jj, jj, jj, jj, jj, jj, jj, jj, jj, jj, jj, jj, jj, jj, jj, jj, jj, jj, jj, jj, jj] [AO.box [AV.str (Prod.fst (List.getD l_803 (Int.toNat (Prod.snd s_853)) ([], [], (0 : Int), [], [], [], [], [], []))), AV.str (Prod.fst (Prod.snd (List.getD l_803 (Int.toNat (Prod.snd s_853)) ([], [], (0 : Int), [], [], [], [], [], [])))), AV.int IntKind.i64 (Prod.fst (Prod.snd (Prod.snd (List.getD l_803 (Int.toNat (Prod.snd s_853)) ([], [], (0 : Int), [], [], [], [], [], []))))), AV.list (Ty.list (Ty.prod Ty.str (Ty.prod Ty.str Ty.str))) (Prod.fst (Prod.snd (Prod.snd (Prod.snd (List.getD l_803 (Int.toNat (Prod.snd s_853)) ([], [], (0 : Int), [], [], [], [], [], [])))))) Bool.false, AV.list (Ty.prod Ty.str (Ty.prod Ty.str Ty.str)) (Prod.fst (Prod.snd (Prod.snd (Prod.snd (Prod.snd (List.getD l_803 (Int.toNat (Prod.snd s_853)) ([], [], (0 : Int), [], [], [], [], [], []))))))) Bool.false, AV.list Ty.str (Prod.fst (Prod.snd (Prod.snd (Prod.snd (Prod.snd (Prod.snd (List.getD l_803 (Int.toNat (Prod.snd s_853)) ([], [], (0 : Int), [], [], [], [], [], [])))))))) Bool.false, AV.list (Ty.prod Ty.str Ty.str) (Prod.fst (Prod.snd (Prod.snd (Prod.snd (Prod.snd (Prod.snd (Prod.snd (List.getD l_803 (Int.toNat (Prod.snd s_853)) ([], [], (0 : Int), [], [], [], [], [], []))))))))) Bool.false, AV.list Ty.str (Prod.fst (Prod.snd (Prod.snd (Prod.snd (Prod.snd (Prod.snd (Prod.snd (Prod.snd (List.getD l_803 (Int.toNat (Prod.snd s_853)) ([], [], (0 : Int), [], [], [], [], [], [])))))))))) Bool.false, AV.list Ty.str (Prod.snd (Prod.snd (Prod.snd (Prod.snd (Prod.snd (Prod.snd (Prod.snd (Prod.snd (List.getD l_803 (Int.toNat (Prod.snd s_853)) ([], [], (0 : Int), [], [], [], [], [], [])))))))))) Bool.false]] (0 : Nat))) (cellarerlaw08_Few_res r) (cellarerlaw08_Few_out r)) h845 (fun t_828 h845 => ?_) (fun t839 h839 K839 => ?_)
                      ·
                        refine W.join (fun t_830 => Walk Go.Proofs.Tryd.prog 19 (Cfg.mk Mode.run (seqTodo Go.Proofs.Tryd.prog 19 27) (St.mk [AV.list (Ty.prod Ty.str (Ty.prod Ty.str (Ty.prod (Ty.int IntKind.i64) (Ty.prod (Ty.list (Ty.list (Ty.prod Ty.str (Ty.prod Ty.str Ty.str)))) (Ty.prod (Ty.list (Ty.prod Ty.str (Ty.prod Ty.str Ty.str))) (Ty.prod (Ty.list Ty.str) (Ty.prod (Ty.list (Ty.prod Ty.str Ty.str)) (Ty.prod (Ty.list Ty.str) (Ty.list Ty.str))))))))) l_803 Bool.false, jj, jj, AV.int IntKind.i64 t_830, AV.int IntKind.i64 (Prod.snd s_853), AV.ptr (0 : Nat) (0 : Nat), jj, jj, AV.int IntKind.i64 (Prod.snd s_854), jj, jj, jj, jj, jj, jj, jj, jj, jj, jj, jj, jj, jj, jj, jj, jj, jj, jj, jj, jj, jj, jj, jj, jj, jj, jj, jj, jj, jj, jj, jj, jj, jj, jj, jj, jj, jj, jj, jj, jj, jj, jj, jj, jj, jj, jj, jj, jj, jj, jj, jj, jj, jj, jj, jj, jj, jj, jj, jj, jj, jj, jj, jj, jj, jj, jj, jj, jj, jj, jj, jj, jj, jj, jj, jj, jj, jj, jj, jj, jj, jj, jj, jj, jj, jj, jj, jj, jj, jj, jj, jj, jj, jj, jj, jj, jj, jj, jj, jj, jj, jj, jj, jj, jj, jj, jj, jj, jj, jj, jj, jj, jj, jj, jj, jj, jj, jj, jj, jj, jj, jj, jj, jj, jj, jj, jj, jj, jj, jj, jj, jj, jj, jj, jj, jj, jj, jj, jj, jj, jj, jj, jj, jj, jj, jj, jj, jj, jj, jj, jj, jj, jj, jj, jj, jj, jj, jj, jj, jj, jj, jj, jj, jj, jj, jj, jj, jj, jj, jj, jj, jj, jj, jj, jj, jj, jj, jj, jj, jj, jj, jj, jj, jj] [AO.box [AV.str (Prod.fst (List.getD l_803 (Int.toNat (Prod.snd s_853)) ([], [], (0 : Int), [], [], [], [], [], []))), AV.str (Prod.fst (Prod.snd (List.getD l_803 (Int.toNat (Prod.snd s_853)) ([], [], (0 : Int), [], [], [], [], [], [])))), AV.int IntKind.i64 (Prod.fst (Prod.snd (Prod.snd (List.getD l_803 (Int.toNat (Prod.snd s_853)) ([], [], (0 : Int), [], [], [], [], [], []))))), AV.list (Ty.list (Ty.prod Ty.str (Ty.prod Ty.str Ty.str))) (Prod.fst (Prod.snd (Prod.snd (Prod.snd (List.getD l_803 (Int.toNat (Prod.snd s_853)) ([], [], (0 : Int), [], [], [], [], [], [])))))) Bool.false, AV.list (Ty.prod Ty.str (Ty.prod Ty.str Ty.str)) (Prod.fst (Prod.snd (Prod.snd (Prod.snd (Prod.snd (List.getD l_803 (Int.toNat (Prod.snd s_853)) ([], [], (0 : Int), [], [], [], [], [], []))))))) Bool.false, AV.list Ty.str (Prod.fst (Prod.snd (Prod.snd (Prod.snd (Prod.snd (Prod.snd (List.getD l_803 (Int.toNat (Prod.snd s_853)) ([], [], (0 : Int), [], [], [], [], [], [])))))))) Bool.false, AV.list (Ty.prod Ty.str Ty.str) (Prod.fst (Prod.snd (Prod.snd (Prod.snd (Prod.snd (Prod.snd (Prod.snd (List.getD l_803 (Int.toNat (Prod.snd s_853)) ([], [], (0 : Int), [], [], [], [], [], []))))))))) Bool.false, AV.list Ty.str (Prod.fst (Prod.snd (Prod.snd (Prod.snd (Prod.snd (Prod.snd (Prod.snd (Prod.snd (List.getD l_803 (Int.toNat (Prod.snd s_853)) ([], [], (0 : Int), [], [], [], [], [], [])))))))))) Bool.false, AV.list Ty.str (Prod.snd (Prod.snd (Prod.snd (Prod.snd (Prod.snd (Prod.snd (Prod.snd (Prod.snd (List.getD l_803 (Int.toNat (Prod.snd s_853)) ([], [], (0 : Int), [], [], [], [], [], [])))))))))) Bool.false]] (0 : Nat))) (cellarerlaw08_Few_res r) (cellarerlaw08_Few_out r)) h845 (fun t_830 h845 => ?_) (fun t838 h838 K838 => ?_)
                        ·
                          refine W.join (fun t_832 => Walk Go.Proofs.Tryd.prog 19 (Cfg.mk Mode.run (seqTodo Go.Proofs.Tryd.prog 19 29) (St.mk [AV.list (Ty.prod Ty.str (Ty.prod Ty.str (Ty.prod (Ty.int IntKind.i64) (Ty.prod (Ty.list (Ty.list (Ty.prod Ty.str (Ty.prod Ty.str Ty.str)))) (Ty.prod (Ty.list (Ty.prod Ty.str (Ty.prod Ty.str Ty.str))) (Ty.prod (Ty.list Ty.str) (Ty.prod (Ty.list (Ty.prod Ty.str Ty.str)) (Ty.prod (Ty.list Ty.str) (Ty.list Ty.str))))))))) l_803 Bool.false, jj, jj, AV.int IntKind.i64 t_832, AV.int IntKind.i64 (Prod.snd s_853), AV.ptr (0 : Nat) (0 : Nat), jj, jj, AV.int IntKind.i64 (Prod.snd s_854), jj, jj, jj, jj, jj, jj, jj, jj, jj, jj, jj, jj, jj, jj, jj, jj, jj, jj, jj, jj, jj, jj, jj, jj, jj, jj, jj, jj, jj, jj, jj, jj, jj, jj, jj, jj, jj, jj, jj, jj, jj, jj, jj, jj, jj, jj, jj, jj, jj, jj, jj, jj, jj, jj, jj, jj, jj, jj, jj, jj, jj, jj, jj, jj, jj, jj, jj, jj, jj, jj, jj, jj, jj, jj, jj, jj, jj, jj, jj, jj, jj, jj, jj, jj, jj, jj, jj, jj, jj, jj, jj, jj, jj, jj, jj, jj, jj, jj, jj, jj, jj, jj, jj, jj, jj, jj, jj, jj, jj, jj, jj, jj, jj, jj, jj, jj, jj, jj, jj, jj, jj, jj, jj, jj, jj, jj, jj, jj, jj, jj, jj, jj, jj, jj, jj, jj, jj, jj, jj, jj, jj, jj, jj, jj, jj, jj, jj, jj, jj, jj, jj, jj, jj, jj, jj, jj, jj, jj, jj, jj, jj, jj, jj, jj, jj, jj, jj, jj, jj, jj, jj, jj, jj, jj, jj, jj, jj, jj, jj, jj, jj, jj, jj] [AO.box [AV.str (Prod.fst (List.getD l_803 (Int.toNat (Prod.snd s_853)) ([], [], (0 : Int), [], [], [], [], [], []))), AV.str (Prod.fst (Prod.snd (List.getD l_803 (Int.toNat (Prod.snd s_853)) ([], [], (0 : Int), [], [], [], [], [], [])))), AV.int IntKind.i64 (Prod.fst (Prod.snd (Prod.snd (List.getD l_803 (Int.toNat (Prod.snd s_853)) ([], [], (0 : Int), [], [], [], [], [], []))))), AV.list (Ty.list (Ty.prod Ty.str (Ty.prod Ty.str Ty.str))) (Prod.fst (Prod.snd (Prod.snd (Prod.snd (List.getD l_803 (Int.toNat (Prod.snd s_853)) ([], [], (0 : Int), [], [], [], [], [], [])))))) Bool.false, AV.list (Ty.prod Ty.str (Ty.prod Ty.str Ty.str)) (Prod.fst (Prod.snd (Prod.snd (Prod.snd (Prod.snd (List.getD l_803 (Int.toNat (Prod.snd s_853)) ([], [], (0 : Int), [], [], [], [], [], []))))))) Bool.false, AV.list Ty.str (Prod.fst (Prod.snd (Prod.snd (Prod.snd (Prod.snd (Prod.snd (List.getD l_803 (Int.toNat (Prod.snd s_853)) ([], [], (0 : Int), [], [], [], [], [], [])))))))) Bool.false, AV.list (Ty.prod Ty.str Ty.str) (Prod.fst (Prod.snd (Prod.snd (Prod.snd (Prod.snd (Prod.snd (Prod.snd (List.getD l_803 (Int.toNat (Prod.snd s_853)) ([], [], (0 : Int), [], [], [], [], [], []))))))))) Bool.false, AV.list Ty.str (Prod.fst (Prod.snd (Prod.snd (Prod.snd (Prod.snd (Prod.snd (Prod.snd (Prod.snd (List.getD l_803 (Int.toNat (Prod.snd s_853)) ([], [], (0 : Int), [], [], [], [], [], [])))))))))) Bool.false, AV.list Ty.str (Prod.snd (Prod.snd (Prod.snd (Prod.snd (Prod.snd (Prod.snd (Prod.snd (Prod.snd (List.getD l_803 (Int.toNat (Prod.snd s_853)) ([], [], (0 : Int), [], [], [], [], [], [])))))))))) Bool.false]] (0 : Nat))) (cellarerlaw08_Few_res r) (cellarerlaw08_Few_out r)) h845 (fun t_832 h845 => ?_) (fun t837 h837 K837 => ?_)
                          ·
                            refine W.join (fun t_834 => Walk Go.Proofs.Tryd.prog 19 (Cfg.mk Mode.run (seqTodo Go.Proofs.Tryd.prog 19 31) (St.mk [AV.list (Ty.prod Ty.str (Ty.prod Ty.str (Ty.prod (Ty.int IntKind.i64) (Ty.prod (Ty.list (Ty.list (Ty.prod Ty.str (Ty.prod Ty.str Ty.str)))) (Ty.prod (Ty.list (Ty.prod Ty.str (Ty.prod Ty.str Ty.str))) (Ty.prod (Ty.list Ty.str) (Ty.prod (Ty.list (Ty.prod Ty.str Ty.str)) (Ty.prod (Ty.list Ty.str) (Ty.list Ty.str))))))))) l_803 Bool.false, jj, jj, AV.int IntKind.i64 t_834, AV.int IntKind.i64 (Prod.snd s_853), AV.ptr (0 : Nat) (0 : Nat), jj, jj, AV.int IntKind.i64 (Prod.snd s_854), jj, jj, jj, jj, jj, jj, jj, jj, jj, jj, jj, jj, jj, jj, jj, jj, jj, jj, jj, jj, jj, jj, jj, jj, jj, jj, jj, jj, jj, jj, jj, jj, jj, jj, jj, jj, jj, jj, jj, jj, jj, jj, jj, jj, jj, jj, jj, jj, jj, jj, jj, jj, jj, jj, jj, jj, jj, jj, jj, jj, jj, jj, jj, jj, jj, jj, jj, jj, jj, jj, jj, jj, jj, jj, jj, jj, jj, jj, jj, jj, jj, jj, jj, jj, jj, jj, jj, jj, jj, jj, jj, jj, jj, jj, jj, jj, jj, jj, jj, jj, jj, jj, jj, jj, jj, jj, jj, jj, jj, jj, jj, jj, jj, jj, jj, jj, jj, jj, jj, jj, jj, jj, jj, jj, jj, jj, jj, jj, jj, jj, jj, jj, jj, jj, jj, jj, jj, jj, jj, jj, jj, jj, jj, jj, jj, jj, jj, jj, jj, jj, jj, jj, jj, jj, jj, jj, jj, jj, jj, jj, jj, jj, jj, jj, jj, jj, jj, jj, jj, jj, jj, jj, jj, jj, jj, jj, jj, jj, jj, jj, jj, jj, jj] [AO.box [AV.str (Prod.fst (List.getD l_803 (Int.toNat (Prod.snd s_853)) ([], [], (0 : Int), [], [], [], [], [], []))), AV.str (Prod.fst (Prod.snd (List.getD l_803 (Int.toNat (Prod.snd s_853)) ([], [], (0 : Int), [], [], [], [], [], [])))), AV.int IntKind.i64 (Prod.fst (Prod.snd (Prod.snd (List.getD l_803 (Int.toNat (Prod.snd s_853)) ([], [], (0 : Int), [], [], [], [], [], []))))), AV.list (Ty.list (Ty.prod Ty.str (Ty.prod Ty.str Ty.str))) (Prod.fst (Prod.snd (Prod.snd (Prod.snd (List.getD l_803 (Int.toNat (Prod.snd s_853)) ([], [], (0 : Int), [], [], [], [], [], [])))))) Bool.false, AV.list (Ty.prod Ty.str (Ty.prod Ty.str Ty.str)) (Prod.fst (Prod.snd (Prod.snd (Prod.snd (Prod.snd (List.getD l_803 (Int.toNat (Prod.snd s_853)) ([], [], (0 : Int), [], [], [], [], [], []))))))) Bool.false, AV.list Ty.str (Prod.fst (Prod.snd (Prod.snd (Prod.snd (Prod.snd (Prod.snd (List.getD l_803 (Int.toNat (Prod.snd s_853)) ([], [], (0 : Int), [], [], [], [], [], [])))))))) Bool.false, AV.list (Ty.prod Ty.str Ty.str) (Prod.fst (Prod.snd (Prod.snd (Prod.snd (Prod.snd (Prod.snd (Prod.snd (List.getD l_803 (Int.toNat (Prod.snd s_853)) ([], [], (0 : Int), [], [], [], [], [], []))))))))) Bool.false, AV.list Ty.str (Prod.fst (Prod.snd (Prod.snd (Prod.snd (Prod.snd (Prod.snd (Prod.snd (Prod.snd (List.getD l_803 (Int.toNat (Prod.snd s_853)) ([], [], (0 : Int), [], [], [], [], [], [])))))))))) Bool.false, AV.list Ty.str (Prod.snd (Prod.snd (Prod.snd (Prod.snd (Prod.snd (Prod.snd (Prod.snd (Prod.snd (List.getD l_803 (Int.toNat (Prod.snd s_853)) ([], [], (0 : Int), [], [], [], [], [], [])))))))))) Bool.false]] (0 : Nat))) (cellarerlaw08_Few_res r) (cellarerlaw08_Few_out r)) h845 (fun t_834 h845 => ?_) (fun t836 h836 K836 => ?_)
                            ·
                              refine W.cond 6 100000 h845 (by kernel_rfl) (fun h845 => ?_) (fun h845 => ?_)
                              ·
                                cases h845; exact W.retK 6 100000 K845 (by kernel_rfl)
                              ·
                                cases h845; exact W.at 6 100000 [] [0, 3, 4, 5, 8] (by kernel_rfl) K845
                            · refine W.next 6 1 (by kernel_rfl) ?_
                              refine W.cond 10 100000 h836 (by kernel_rfl) (fun h836 => ?_) (fun h836 => ?_)
                              ·
                                refine W.needT 10 100000 h836 (by kernel_rfl) (fun h836 => ?_)
                                cases h836; exact W.at 10 100000 [] [0, 3, 4, 5, 8] (by kernel_rfl) K836
                              ·
                                cases h836; exact W.at 10 100000 [] [0, 3, 4, 5, 8] (by kernel_rfl) K836
                          · refine W.next 6 1 (by kernel_rfl) ?_
                            refine W.cond 10 100000 h837 (by kernel_rfl) (fun h837 => ?_) (fun h837 => ?_)
                            ·
                              refine W.needT 10 100000 h837 (by kernel_rfl) (fun h837 => ?_)
                              cases h837; exact W.at 10 100000 [] [0, 3, 4, 5, 8] (by kernel_rfl) K837
                            ·
                              cases h837; exact W.at 10 100000 [] [0, 3, 4, 5, 8] (by kernel_rfl) K837
                        · refine W.next 6 1 (by kernel_rfl) ?_
                          refine W.cond 10 100000 h838 (by kernel_rfl) (fun h838 => ?_) (fun h838 => ?_)
                          ·
                            refine W.needT 10 100000 h838 (by kernel_rfl) (fun h838 => ?_)
                            refine W.needT 10 100000 h838 (by kernel_rfl) (fun h838 => ?_)
                            cases h838; exact W.at 10 100000 [] [0, 3, 4, 5, 8] (by kernel_rfl) K838
                          ·
                            cases h838; exact W.at 10 100000 [] [0, 3, 4, 5, 8] (by kernel_rfl) K838
                      · refine W.next 6 1 (by kernel_rfl) ?_
                        refine W.cond 10 100000 h839 (by kernel_rfl) (fun h839 => ?_) (fun h839 => ?_)
                        ·
                          refine W.needT 10 100000 h839 (by kernel_rfl) (fun h839 => ?_)
                          cases h839; exact W.at 10 100000 [] [0, 3, 4, 5, 8] (by kernel_rfl) K839
                        ·
                          cases h839; exact W.at 10 100000 [] [0, 3, 4, 5, 8] (by kernel_rfl) K839
                    · refine W.next 6 1 (by kernel_rfl) ?_
                      refine W.cond 10 100000 h840 (by kernel_rfl) (fun h840 => ?_) (fun h840 => ?_)
                      ·
                        refine W.needT 10 100000 h840 (by kernel_rfl) (fun h840 => ?_)
                        refine W.needT 10 100000 h840 (by kernel_rfl) (fun h840 => ?_)
                        cases h840; exact W.at 10 100000 [] [0, 3, 4, 5, 8] (by kernel_rfl) K840
                      ·
                        cases h840; exact W.at 10 100000 [] [0, 3, 4, 5, 8] (by kernel_rfl) K840
                · refine W.next 6 4 (by kernel_rfl) ?_
                  refine W.cond 10 100000 h841 (by kernel_rfl) (fun h841 => ?_) (fun h841 => ?_)
                  ·
                    refine W.yes 10 100000 (by kernel_rfl) ?_
                    refine W.yes 10 100000 (by kernel_rfl) ?_
                    refine W.yes 10 100000 (by kernel_rfl) ?_
                    refine W.needT 10 100000 h841 (by kernel_rfl) (fun h841 => ?_)
                    refine W.yes 10 100000 (by kernel_rfl) ?_
                    refine W.yes 10 100000 (by kernel_rfl) ?_
                    refine W.yes 10 100000 (by kernel_rfl) ?_
                    refine W.yes 10 100000 (by kernel_rfl) ?_
                    refine W.cond 10 100000 h841 (by kernel_rfl) (fun h841 => ?_) (fun h841 => ?_)
                    ·
                      cases h841; exact W.retK 10 100000 K841 (by kernel_rfl)
                    ·
                      cases h841; exact W.at 10 100000 [] [0, 3, 4, 5, 8] (by kernel_rfl) K841
                  ·
                    refine W.no 10 100000 (by kernel_rfl) ?_
                    refine W.no 10 100000 (by kernel_rfl) ?_
                    refine W.no 10 100000 (by kernel_rfl) ?_
                    refine W.no 10 100000 (by kernel_rfl) ?_
                    refine W.no 10 100000 (by kernel_rfl) ?_
                    refine W.no 10 100000 (by kernel_rfl) ?_
                    refine W.no 10 100000 (by kernel_rfl) ?_
                    refine W.no 10 100000 (by kernel_rfl) ?_
                    cases h841; exact W.at 10 100000 [] [0, 3, 4, 5, 8] (by kernel_rfl) K841
              ·
                cases h845; exact W.at 6 100000 [] [0, 3, 4] (by kernel_rfl) K845
        · refine W.next 2 5 (by kernel_rfl) ?_
          refine W.cond 6 100000 h846 (by kernel_rfl) (fun h846 => ?_) (fun h846 => ?_)
          ·
            refine W.yes 6 100000 (by kernel_rfl) ?_
            refine W.yes 6 100000 (by kernel_rfl) ?_
            refine W.yes 6 100000 (by kernel_rfl) ?_
            refine W.yes 6 100000 (by kernel_rfl) ?_
            refine W.yes 6 100000 (by kernel_rfl) ?_
            refine W.yes 6 100000 (by kernel_rfl) ?_
            refine W.yes 6 100000 (by kernel_rfl) ?_
            refine W.yes 6 100000 (by kernel_rfl) ?_
            refine W.yes 6 100000 (by kernel_rfl) ?_
            refine W.yes 6 100000 (by kernel_rfl) ?_
            refine W.yes 6 100000 (by kernel_rfl) ?_
            refine W.yes 6 100000 (by kernel_rfl) ?_
            refine W.yes 6 100000 (by kernel_rfl) ?_
            refine W.yes 6 100000 (by kernel_rfl) ?_
            refine W.yes 6 100000 (by kernel_rfl) ?_
            refine W.yes 6 100000 (by kernel_rfl) ?_
            refine W.yes 6 100000 (by kernel_rfl) ?_
            refine W.yes 6 100000 (by kernel_rfl) ?_
            refine W.yes 6 100000 (by kernel_rfl) ?_
            refine W.yes 6 100000 (by kernel_rfl) ?_
            refine W.yes 6 100000 (by kernel_rfl) ?_
            refine W.yes 6 100000 (by kernel_rfl) ?_
            refine W.yes 6 100000 (by kernel_rfl) ?_
            refine W.yes 6 100000 (by kernel_rfl) ?_
            refine W.yes 6 100000 (by kernel_rfl) ?_
            cases h846; exact W.retK 6 100000 K846 (by kernel_rfl)
          ·
            refine W.no 6 100000 (by kernel_rfl) ?_
            refine W.no 6 100000 (by kernel_rfl) ?_
            refine W.no 6 100000 (by kernel_rfl) ?_
            refine W.no 6 100000 (by kernel_rfl) ?_
            refine W.cond 6 100000 h846 (by kernel_rfl) (fun h846 => ?_) (fun h846 => ?_)
            ·
              refine W.yes 6 100000 (by kernel_rfl) ?_
              refine W.yes 6 100000 (by kernel_rfl) ?_
              refine W.yes 6 100000 (by kernel_rfl) ?_
              refine W.yes 6 100000 (by kernel_rfl) ?_
              refine W.yes 6 100000 (by kernel_rfl) ?_
              refine W.yes 6 100000 (by kernel_rfl) ?_
              refine W.yes 6 100000 (by kernel_rfl) ?_
              refine W.yes 6 100000 (by kernel_rfl) ?_
              refine W.yes 6 100000 (by kernel_rfl) ?_
              refine W.yes 6 100000 (by kernel_rfl) ?_
              refine W.yes 6 100000 (by kernel_rfl) ?_
              refine W.yes 6 100000 (by kernel_rfl) ?_
              refine W.yes 6 100000 (by kernel_rfl) ?_
              refine W.yes 6 100000 (by kernel_rfl) ?_
              refine W.yes 6 100000 (by kernel_rfl) ?_
              refine W.yes 6 100000 (by kernel_rfl) ?_
              refine W.yes 6 100000 (by kernel_rfl) ?_
              refine W.yes 6 100000 (by kernel_rfl) ?_
              refine W.yes 6 100000 (by kernel_rfl) ?_
              refine W.yes 6 100000 (by kernel_rfl) ?_
              cases h846; exact W.retK 6 100000 K846 (by kernel_rfl)
            ·
              refine W.no 6 100000 (by kernel_rfl) ?_
              refine W.no 6 100000 (by kernel_rfl) ?_
              refine W.no 6 100000 (by kernel_rfl) ?_
              refine W.no 6 100000 (by kernel_rfl) ?_
              refine W.cond 6 100000 h846 (by kernel_rfl) (fun h846 => ?_) (fun h846 => ?_)
              ·
                refine W.yes 6 100000 (by kernel_rfl) ?_
                refine W.yes 6 100000 (by kernel_rfl) ?_
                refine W.yes 6 100000 (by kernel_rfl) ?_
                refine W.yes 6 100000 (by kernel_rfl) ?_
                refine W.yes 6 100000 (by kernel_rfl) ?_
                refine W.yes 6 100000 (by kernel_rfl) ?_
                refine W.yes 6 100000 (by kernel_rfl) ?_
                refine W.yes 6 100000 (by kernel_rfl) ?_
                refine W.yes 6 100000 (by kernel_rfl) ?_
                refine W.yes 6 100000 (by kernel_rfl) ?_
                refine W.yes 6 100000 (by kernel_rfl) ?_
                refine W.yes 6 100000 (by kernel_rfl) ?_
                refine W.yes 6 100000 (by kernel_rfl) ?_
                refine W.yes 6 100000 (by kernel_rfl) ?_
                refine W.yes 6 100000 (by kernel_rfl) ?_
                cases h846; exact W.retK 6 100000 K846 (by kernel_rfl)
              ·
                refine W.no 6 100000 (by kernel_rfl) ?_
                refine W.no 6 100000 (by kernel_rfl) ?_
                refine W.no 6 100000 (by kernel_rfl) ?_
                refine W.no 6 100000 (by kernel_rfl) ?_
                refine W.cond 6 100000 h846 (by kernel_rfl) (fun h846 => ?_) (fun h846 => ?_)
                ·
                  refine W.yes 6 100000 (by kernel_rfl) ?_
                  refine W.yes 6 100000 (by kernel_rfl) ?_
                  refine W.yes 6 100000 (by kernel_rfl) ?_
                  refine W.yes 6 100000 (by kernel_rfl) ?_
                  refine W.yes 6 100000 (by kernel_rfl) ?_
                  refine W.yes 6 100000 (by kernel_rfl) ?_
                  refine W.yes 6 100000 (by kernel_rfl) ?_
                  refine W.yes 6 100000 (by kernel_rfl) ?_
                  refine W.yes 6 100000 (by kernel_rfl) ?_
                  refine W.yes 6 100000 (by kernel_rfl) ?_
                  cases h846; exact W.retK 6 100000 K846 (by kernel_rfl)
                ·
                  refine W.no 6 100000 (by kernel_rfl) ?_
                  refine W.no 6 100000 (by kernel_rfl) ?_
                  refine W.no 6 100000 (by kernel_rfl) ?_
                  refine W.no 6 100000 (by kernel_rfl) ?_
                  refine W.cond 6 100000 h846 (by kernel_rfl) (fun h846 => ?_) (fun h846 => ?_)
                  ·
                    refine W.yes 6 100000 (by kernel_rfl) ?_
                    refine W.yes 6 100000 (by kernel_rfl) ?_
                    refine W.yes 6 100000 (by kernel_rfl) ?_
                    refine W.yes 6 100000 (by kernel_rfl) ?_
                    refine W.yes 6 100000 (by kernel_rfl) ?_
                    cases h846; exact W.retK 6 100000 K846 (by kernel_rfl)
                  ·
                    refine W.no 6 100000 (by kernel_rfl) ?_
                    refine W.no 6 100000 (by kernel_rfl) ?_
                    refine W.no 6 100000 (by kernel_rfl) ?_
                    refine W.no 6 100000 (by kernel_rfl) ?_
                    refine W.cond 6 100000 h846 (by kernel_rfl) (fun h846 => ?_) (fun h846 => ?_)
                    ·
                      cases h846; exact W.retK 6 100000 K846 (by kernel_rfl)
                    ·
                      cases h846; exact W.at 6 100000 [] [0, 3, 4, 5] (by kernel_rfl) K846
      ·
        cases h849; exact W.at 2 100000 [] [] (by kernel_rfl) K849

theorem cellarerlaw13_Few_con {l_856 : List (List UInt8 × List (List UInt8))} {r : Bool} (h : cellarerlaw13_Few l_856 = some r) : Con Go.Proofs.Tryd.prog 20 [AV.list (Ty.prod Ty.str (Ty.list Ty.str)) l_856 Bool.false] [] (cellarerlaw13_Few_res r) (cellarerlaw13_Few_out r) := by
  refine W.con (by kernel_rfl) ?_
  unfold cellarerlaw13_Few at h
  refine W.cond 0 100000 h (by kernel_rfl) (fun h => ?_) (fun h => ?_)
  ·
    exact W.retT 0 100000 h (by kernel_rfl)
  ·
    refine W.at 0 100000 [] [0, 3, 4] (c' := (fun (s_878 : Int × Int) => (Cfg.mk Mode.run (headTodo Go.Proofs.Tryd.prog 20 0) (St.mk [AV.list (Ty.prod Ty.str (Ty.list Ty.str)) l_856 Bool.false, jj, jj, AV.int IntKind.i64 (Prod.fst s_878), AV.int IntKind.i64 (Prod.snd s_878), jj, jj, jj, jj, jj, jj, jj, jj, jj, jj, jj, jj, jj, jj, jj, jj, jj, jj, jj, jj, jj, jj, jj, jj, jj, jj, jj, jj, jj, jj, jj, jj, jj, jj, jj, jj, jj, jj, jj, jj, jj, jj, jj, jj, jj, jj, jj, jj, jj, jj, jj] [] (0 : Nat)))) ((0 : Int), (0 : Int))) (by kernel_rfl) ?_
    refine W.loop (fun (s_878 : Int × Int) => (Cfg.mk Mode.run (headTodo Go.Proofs.Tryd.prog 20 0) (St.mk [AV.list (Ty.prod Ty.str (Ty.list Ty.str)) l_856 Bool.false, jj, jj, AV.int IntKind.i64 (Prod.fst s_878), AV.int IntKind.i64 (Prod.snd s_878), jj, jj, jj, jj, jj, jj, jj, jj, jj, jj, jj, jj, jj, jj, jj, jj, jj, jj, jj, jj, jj, jj, jj, jj, jj, jj, jj, jj, jj, jj, jj, jj, jj, jj, jj, jj, jj, jj, jj, jj, jj, jj, jj, jj, jj, jj, jj, jj, jj, jj, jj] [] (0 : Nat)))) (fun t => (Sum.elim (fun t_871 => r = (Bool.false)) (fun t_872 => Walk Go.Proofs.Tryd.prog 20 (Cfg.mk Mode.run ((headTodo Go.Proofs.Tryd.prog 20 0).drop 3) (St.mk [jj, jj, jj, jj, jj, jj, jj, jj, jj, jj, jj, jj, jj, jj, jj, jj, jj, jj, jj, jj, jj, jj, jj, jj, jj, jj, jj, jj, jj, jj, jj, jj, jj, jj, jj, jj, jj, jj, jj, jj, jj, jj, jj, jj, jj, jj, jj, jj, jj, jj, jj, jj, jj, jj, jj, jj] [] (0 : Nat))) (cellarerlaw13_Few_res r) (cellarerlaw13_Few_out r))) t) h (fun t h => ?_) (fun s_878 x874 h874 K874 => ?_)
    ·
      rcases t with t_871 | t_872
      · replace h := W.inl (h)
        refine W.elimL (?_)
        exact (Option.some.inj h).symm
      · replace h := W.inr (h)
        refine W.elimR (?_)
        exact W.retT 0 100000 h (by kernel_rfl)
    · unfold cellarerlaw13_Few_b1 at h874
      refine W.cond 2 100000 h874 (by kernel_rfl) (fun h874 => ?_) (fun h874 => ?_)
      ·
        refine W.join (fun t => (Sum.elim (fun t_860 => r = (Bool.false)) (fun t_861 => Walk Go.Proofs.Tryd.prog 20 (Cfg.mk Mode.run (seqTodo Go.Proofs.Tryd.prog 20 10) (St.mk [AV.list (Ty.prod Ty.str (Ty.list Ty.str)) l_856 Bool.false, jj, jj, AV.int IntKind.i64 (Prod.fst s_878), AV.int IntKind.i64 (Prod.snd s_878), jj, jj, jj, jj, jj, jj, jj, jj, jj, jj, jj, jj, jj, jj, jj, jj, jj, jj, jj, jj, jj, jj, jj, jj, jj, jj, jj, jj, jj, jj, jj, jj, jj, jj, jj, jj, jj, jj, jj, jj, jj, jj, jj, jj, jj, jj, jj, jj, jj, jj, jj] [] (0 : Nat))) (cellarerlaw13_Few_res r) (cellarerlaw13_Few_out r))) t) h874 (fun t h874 => ?_) (fun t871 h871 K871 => ?_)
        ·
          rcases t with t_860 | t_861
          · replace h874 := W.inl (h874)
            refine W.elimL (?_)
            cases h874; exact K874
          · replace h874 := W.inr (h874)
            refine W.elimR (?_)
            refine W.at 2 100000 [] [0, 3, 4, 5] (c' := (fun (s_879 : Int × Int) => (Cfg.mk Mode.run (headTodo Go.Proofs.Tryd.prog 20 1) (St.mk [AV.list (Ty.prod Ty.str (Ty.list Ty.str)) l_856 Bool.false, jj, jj, AV.int IntKind.i64 (Prod.fst s_879), AV.int IntKind.i64 (Prod.snd s_878), AV.int IntKind.i64 (Prod.snd s_879), jj, jj, jj, jj, jj, jj, jj, jj, jj, jj, jj, jj, jj, jj, jj, jj, jj, jj, jj, jj, jj, jj, jj, jj, jj, jj, jj, jj, jj, jj, jj, jj, jj, jj, jj, jj, jj, jj, jj, jj, jj, jj, jj, jj, jj, jj, jj, jj, jj, jj] [] (0 : Nat)))) (Prod.fst s_878, (0 : Int))) (by kernel_rfl) ?_
            refine W.loop (fun (s_879 : Int × Int) => (Cfg.mk Mode.run (headTodo Go.Proofs.Tryd.prog 20 1) (St.mk [AV.list (Ty.prod Ty.str (Ty.list Ty.str)) l_856 Bool.false, jj, jj, AV.int IntKind.i64 (Prod.fst s_879), AV.int IntKind.i64 (Prod.snd s_878), AV.int IntKind.i64 (Prod.snd s_879), jj, jj, jj, jj, jj, jj, jj, jj, jj, jj, jj, jj, jj, jj, jj, jj, jj, jj, jj, jj, jj, jj, jj, jj, jj, jj, jj, jj, jj, jj, jj, jj, jj, jj, jj, jj, jj, jj, jj, jj, jj, jj, jj, jj, jj, jj, jj, jj, jj, jj] [] (0 : Nat)))) (fun t => (Sum.elim (fun t_866 => r = (Bool.false)) (fun t_868 => Walk Go.Proofs.Tryd.prog 20 (Cfg.mk Mode.run ((headTodo Go.Proofs.Tryd.prog 20 1).drop 3) (St.mk [AV.list (Ty.prod Ty.str (Ty.list Ty.str)) l_856 Bool.false, jj, jj, AV.int IntKind.i64 t_868, AV.int IntKind.i64 (Prod.snd s_878), jj, jj, jj, jj, jj, jj, jj, jj, jj, jj, jj, jj, jj, jj, jj, jj, jj, jj, jj, jj, jj, jj, jj, jj, jj, jj, jj, jj, jj, jj, jj, jj, jj, jj, jj, jj, jj, jj, jj, jj, jj, jj, jj, jj, jj, jj, jj, jj, jj, jj, jj] [] (0 : Nat))) (cellarerlaw13_Few_res r) (cellarerlaw13_Few_out r))) t) h874 (fun t h874 => ?_) (fun s_879 x870 h870 K870 => ?_)
            ·
              rcases t with t_866 | t_868
              · replace h874 := W.inl (h874)
                refine W.elimL (?_)
                cases h874; exact K874
              · replace h874 := W.inr (h874)
                refine W.elimR (?_)
                cases h874; exact W.at 2 100000 [] [0, 3, 4] (by kernel_rfl) K874
            · unfold cellarerlaw13_Few_b0 at h870
              refine W.needT 6 100000 h870 (by kernel_rfl) (fun h870 => ?_)
              refine W.cond 6 100000 h870 (by kernel_rfl) (fun h870 => ?_) (fun h870 => ?_)
              ·
                refine W.needT 6 100000 h870 (by kernel_rfl) (fun h870 => ?_)
                refine W.needT 6 100000 h870 (by kernel_rfl) (fun h870 => ?_)
                refine W.cond 6 100000 h870 (by kernel_rfl) (fun h870 => ?_) (fun h870 => ?_)
                ·
                  cases h870; exact W.retK 6 100000 K870 (by kernel_rfl)
                ·
                  cases h870; exact W.at 6 100000 [] [0, 3, 4, 5] (by kernel_rfl) K870
              ·
                cases h870; exact W.at 6 100000 [] [0, 3, 4] (by kernel_rfl) K870
        · refine W.next 2 4 (by kernel_rfl) ?_
          refine W.needT 6 100000 h871 (by kernel_rfl) (fun h871 => ?_)
          refine W.cond 6 100000 h871 (by kernel_rfl) (fun h871 => ?_) (fun h871 => ?_)
          ·
            refine W.yes 6 100000 (by kernel_rfl) ?_
            refine W.yes 6 100000 (by kernel_rfl) ?_
            refine W.yes 6 100000 (by kernel_rfl) ?_
            refine W.yes 6 100000 (by kernel_rfl) ?_
            refine W.yes 6 100000 (by kernel_rfl) ?_
            refine W.yes 6 100000 (by kernel_rfl) ?_
            refine W.yes 6 100000 (by kernel_rfl) ?_
            refine W.yes 6 100000 (by kernel_rfl) ?_
            cases h871; exact W.retK 6 100000 K871 (by kernel_rfl)
          ·
            refine W.no 6 100000 (by kernel_rfl) ?_
            refine W.no 6 100000 (by kernel_rfl) ?_
            refine W.needT 6 100000 h871 (by kernel_rfl) (fun h871 => ?_)
            refine W.no 6 100000 (by kernel_rfl) ?_
            refine W.no 6 100000 (by kernel_rfl) ?_
            refine W.no 6 100000 (by kernel_rfl) ?_
            refine W.no 6 100000 (by kernel_rfl) ?_
            refine W.no 6 100000 (by kernel_rfl) ?_
            refine W.cond 6 100000 h871 (by kernel_rfl) (fun h871 => ?_) (fun h871 => ?_)
            ·
              cases h871; exact W.retK 6 100000 K871 (by kernel_rfl)
            ·
              cases h871; exact W.at 6 100000 [] [0, 3, 4] (by kernel_rfl) K871
      ·
        cases h874; exact W.at 2 100000 [] [] (by kernel_rfl) K874

theorem cellarerlaw09_Few_con {l_881 : List (List UInt8 × List UInt8 × List UInt8)} {r : Bool} (h : cellarerlaw09_Few l_881 = some r) : Con Go.Proofs.Tryd.prog 21 [AV.list (Ty.prod Ty.str (Ty.prod Ty.str Ty.str)) l_881 Bool.false] [] (cellarerlaw09_Few_res r) (cellarerlaw09_Few_out r) := by
  refine W.con (by kernel_rfl) ?_
  unfold cellarerlaw09_Few at h
  refine W.cond 0 100000 h (by kernel_rfl) (fun h => ?_) (fun h => ?_)
  ·
    exact W.retT 0 100000 h (by kernel_rfl)
  ·
    refine W.at 0 100000 [] [0, 3] (c' := (fun (s_890 : Int) => (Cfg.mk Mode.run (headTodo Go.Proofs.Tryd.prog 21 0) (St.mk [AV.list (Ty.prod Ty.str (Ty.prod Ty.str Ty.str)) l_881 Bool.false, jj, jj, AV.int IntKind.i64 s_890, jj, jj, jj, jj, jj, jj, jj, jj, jj, jj, jj, jj, jj, jj, jj, jj, jj, jj, jj, jj, jj, jj, jj, jj, jj, jj, jj, jj, jj, jj, jj, jj, jj, jj] [] (0 : Nat)))) ((0 : Int))) (by kernel_rfl) ?_
    refine W.loop (fun (s_890 : Int) => (Cfg.mk Mode.run (headTodo Go.Proofs.Tryd.prog 21 0) (St.mk [AV.list (Ty.prod Ty.str (Ty.prod Ty.str Ty.str)) l_881 Bool.false, jj, jj, AV.int IntKind.i64 s_890, jj, jj, jj, jj, jj, jj, jj, jj, jj, jj, jj, jj, jj, jj, jj, jj, jj, jj, jj, jj, jj, jj, jj, jj, jj, jj, jj, jj, jj, jj, jj, jj, jj, jj] [] (0 : Nat)))) (fun t => (Sum.elim (fun t_884 => r = (Bool.false)) (fun t_885 => Walk Go.Proofs.Tryd.prog 21 (Cfg.mk Mode.run ((headTodo Go.Proofs.Tryd.prog 21 0).drop 3) (St.mk [jj, jj, jj, jj, jj, jj, jj, jj, jj, jj, jj, jj, jj, jj, jj, jj, jj, jj, jj, jj, jj, jj, jj, jj, jj, jj, jj, jj, jj, jj, jj, jj, jj, jj, jj, jj, jj, jj] [] (0 : Nat))) (cellarerlaw09_Few_res r) (cellarerlaw09_Few_out r))) t) h (fun t h => ?_) (fun s_890 x887 h887 K887 => ?_)
    ·
      rcases t with t_884 | t_885
      · replace h := W.inl (h)
        refine W.elimL (?_)
        exact (Option.some.inj h).symm
      · replace h := W.inr (h)
        refine W.elimR (?_)
        exact W.retT 0 100000 h (by kernel_rfl)
    · unfold cellarerlaw09_Few_b0 at h887
      refine W.cond 2 100000 h887 (by kernel_rfl) (fun h887 => ?_) (fun h887 => ?_)
      ·
        refine W.needT 2 100000 h887 (by kernel_rfl) (fun h887 => ?_)
        refine W.cond 2 100000 h887 (by kernel_rfl) (fun h887 => ?_) (fun h887 => ?_)
        ·
          refine W.yes 2 100000 (by kernel_rfl) ?_
          refine W.yes 2 100000 (by kernel_rfl) ?_
          refine W.yes 2 100000 (by kernel_rfl) ?_
          refine W.yes 2 100000 (by kernel_rfl) ?_
          refine W.yes 2 100000 (by kernel_rfl) ?_
          refine W.yes 2 100000 (by kernel_rfl) ?_
          refine W.yes 2 100000 (by kernel_rfl) ?_
          refine W.yes 2 100000 (by kernel_rfl) ?_
          refine W.yes 2 100000 (by kernel_rfl) ?_
          refine W.yes 2 100000 (by kernel_rfl) ?_
          refine W.yes 2 100000 (by kernel_rfl) ?_
          refine W.yes 2 100000 (by kernel_rfl) ?_
          refine W.yes 2 100000 (by kernel_rfl) ?_
          refine W.yes 2 100000 (by kernel_rfl) ?_
          refine W.yes 2 100000 (by kernel_rfl) ?_
          refine W.yes 2 100000 (by kernel_rfl) ?_
          cases h887; exact W.retK 2 100000 K887 (by kernel_rfl)
        ·
          refine W.no 2 100000 (by kernel_rfl) ?_
          refine W.no 2 100000 (by kernel_rfl) ?_
          refine W.needT 2 100000 h887 (by kernel_rfl) (fun h887 => ?_)
          refine W.no 2 100000 (by kernel_rfl) ?_
          refine W.no 2 100000 (by kernel_rfl) ?_
          refine W.no 2 100000 (by kernel_rfl) ?_
          refine W.no 2 100000 (by kernel_rfl) ?_
          refine W.no 2 100000 (by kernel_rfl) ?_
          refine W.cond 2 100000 h887 (by kernel_rfl) (fun h887 => ?_) (fun h887 => ?_)
          ·
            refine W.yes 2 100000 (by kernel_rfl) ?_
            refine W.yes 2 100000 (by kernel_rfl) ?_
            refine W.yes 2 100000 (by kernel_rfl) ?_
            refine W.yes 2 100000 (by kernel_rfl) ?_
            refine W.yes 2 100000 (by kernel_rfl) ?_
            refine W.yes 2 100000 (by kernel_rfl) ?_
            refine W.yes 2 100000 (by kernel_rfl) ?_
            refine W.yes 2 100000 (by kernel_rfl) ?_
            cases h887; exact W.retK 2 100000 K887 (by kernel_rfl)
          ·
            refine W.no 2 100000 (by kernel_rfl) ?_
            refine W.no 2 100000 (by kernel_rfl) ?_
            refine W.needT 2 100000 h887 (by kernel_rfl) (fun h887 => ?_)
            refine W.no 2 100000 (by kernel_rfl) ?_
            refine W.no 2 100000 (by kernel_rfl) ?_
            refine W.no 2 100000 (by kernel_rfl) ?_
            refine W.no 2 100000 (by kernel_rfl) ?_
            refine W.no 2 100000 (by kernel_rfl) ?_
            refine W.cond 2 100000 h887 (by kernel_rfl) (fun h887 => ?_) (fun h887 => ?_)
            ·
              cases h887; exact W.retK 2 100000 K887 (by kernel_rfl)
            ·
              cases h887; exact W.at 2 100000 [] [0, 3] (by kernel_rfl) K887
      ·
        cases h887; exact W.at 2 100000 [] [] (by kernel_rfl) K887

theorem cellarerlaw12_Few_con {l_892 : List (List UInt8 × List UInt8 × Bool)} {r : Bool} (h : cellarerlaw12_Few l_892 = some r) : Con Go.Proofs.Tryd.prog 22 [AV.list (Ty.prod Ty.str (Ty.prod Ty.str Ty.bool)) l_892 Bool.false] [] (cellarerlaw12_Few_res r) (cellarerlaw12_Few_out r) := by
  refine W.con (by kernel_rfl) ?_
  unfold cellarerlaw12_Few at h
  refine W.cond 0 100000 h (by kernel_rfl) (fun h => ?_) (fun h => ?_)
  ·
    exact W.retT 0 100000 h (by kernel_rfl)
  ·
    refine W.at 0 100000 [] [0, 3] (c' := (fun (s_901 : Int) => (Cfg.mk Mode.run (headTodo Go.Proofs.Tryd.prog 22 0) (St.mk [AV.list (Ty.prod Ty.str (Ty.prod Ty.str Ty.bool)) l_892 Bool.false, jj, jj, AV.int IntKind.i64 s_901, jj, jj, jj, jj, jj, jj, jj, jj, jj, jj, jj, jj, jj, jj, jj, jj, jj, jj, jj, jj, jj, jj, jj, jj, jj] [] (0 : Nat)))) ((0 : Int))) (by kernel_rfl) ?_
    refine W.loop (fun (s_901 : Int) => (Cfg.mk Mode.run (headTodo Go.Proofs.Tryd.prog 22 0) (St.mk [AV.list (Ty.prod Ty.str (Ty.prod Ty.str Ty.bool)) l_892 Bool.false, jj, jj, AV.int IntKind.i64 s_901, jj, jj, jj, jj, jj, jj, jj, jj, jj, jj, jj, jj, jj, jj, jj, jj, jj, jj, jj, jj, jj, jj, jj, jj, jj] [] (0 : Nat)))) (fun t => (Sum.elim (fun t_895 => r = (Bool.false)) (fun t_896 => Walk Go.Proofs.Tryd.prog 22 (Cfg.mk Mode.run ((headTodo Go.Proofs.Tryd.prog 22 0).drop 3) (St.mk [jj, jj, jj, jj, jj, jj, jj, jj, jj, jj, jj, jj, jj, jj, jj, jj, jj, jj, jj, jj, jj, jj, jj, jj, jj, jj, jj, jj, jj] [] (0 : Nat))) (cellarerlaw12_Few_res r) (cellarerlaw12_Few_out r))) t) h (fun t h => ?_) (fun s_901 x898 h898 K898 => ?_)
    ·
      rcases t with t_895 | t_896
      · replace h := W.inl (h)
        refine W.elimL (?_)
        exact (Option.some.inj h).symm
      · replace h := W.inr (h)
        refine W.elimR (?_)
        exact W.retT 0 100000 h (by kernel_rfl)
    · unfold cellarerlaw12_Few_b0 at h898
      refine W.cond 2 100000 h898 (by kernel_rfl) (fun h898 => ?_) (fun h898 => ?_)
      ·
        refine W.needT 2 100000 h898 (by kernel_rfl) (fun h898 => ?_)
        refine W.cond 2 100000 h898 (by kernel_rfl) (fun h898 => ?_) (fun h898 => ?_)
        ·
          refine W.yes 2 100000 (by kernel_rfl) ?_
          refine W.yes 2 100000 (by kernel_rfl) ?_
          refine W.yes 2 100000 (by kernel_rfl) ?_
          refine W.yes 2 100000 (by kernel_rfl) ?_
          refine W.yes 2 100000 (by kernel_rfl) ?_
          refine W.yes 2 100000 (by kernel_rfl) ?_
          refine W.yes 2 100000 (by kernel_rfl) ?_
          refine W.yes 2 100000 (by kernel_rfl) ?_
          cases h898; exact W.retK 2 100000 K898 (by kernel_rfl)
        ·
          refine W.no 2 100000 (by kernel_rfl) ?_
          refine W.no 2 100000 (by kernel_rfl) ?_
          refine W.needT 2 100000 h898 (by kernel_rfl) (fun h898 => ?_)
          refine W.no 2 100000 (by kernel_rfl) ?_
          refine W.no 2 100000 (by kernel_rfl) ?_
          refine W.no 2 100000 (by kernel_rfl) ?_
          refine W.no 2 100000 (by kernel_rfl) ?_
          refine W.no 2 100000 (by kernel_rfl) ?_
          refine W.cond 2 100000 h898 (by kernel_rfl) (fun h898 => ?_) (fun h898 => ?_)
          ·
            cases h898; exact W.retK 2 100000 K898 (by kernel_rfl)
          ·
            cases h898; exact W.at 2 100000 [] [0, 3] (by kernel_rfl) K898
      ·
        cases h898; exact W.at 2 100000 [] [] (by kernel_rfl) K898

theorem cellarerlaw19_FewActs_con {l_904 : List (Int × List UInt8 × List UInt8 × List UInt8 × (Int × Int × Int) × Int × Bool × Bool × List (List UInt8 × List UInt8) × List (List UInt8))} {n_905 : Int} {r : Bool} (h : cellarerlaw19_FewActs l_904 n_905 = some r) : Con Go.Proofs.Tryd.prog 23 [AV.list (Ty.prod (Ty.int IntKind.i64) (Ty.prod Ty.str (Ty.prod Ty.str (Ty.prod Ty.str (Ty.prod (Ty.prod (Ty.int IntKind.i64) (Ty.prod (Ty.int IntKind.i64) (Ty.int IntKind.i64))) (Ty.prod (Ty.int IntKind.i64) (Ty.prod Ty.bool (Ty.prod Ty.bool (Ty.prod (Ty.list (Ty.prod Ty.str Ty.str)) (Ty.list Ty.str)))))))))) l_904 Bool.false, AV.int IntKind.i64 n_905] [] (cellarerlaw19_FewActs_res r) (cellarerlaw19_FewActs_out r) := by
  refine W.con (by kernel_rfl) ?_
  unfold cellarerlaw19_FewActs at h
  refine W.cond 0 100000 h (by kernel_rfl) (fun h => ?_) (fun h => ?_)
  ·
    exact W.retT 0 100000 h (by kernel_rfl)
  ·
    refine W.at 0 100000 [] [0, 5] (c' := (fun (s_915 : Int) => (Cfg.mk Mode.run (headTodo Go.Proofs.Tryd.prog 23 0) (St.mk [AV.list (Ty.prod (Ty.int IntKind.i64) (Ty.prod Ty.str (Ty.prod Ty.str (Ty.prod Ty.str (Ty.prod (Ty.prod (Ty.int IntKind.i64) (Ty.prod (Ty.int IntKind.i64) (Ty.int IntKind.i64))) (Ty.prod (Ty.int IntKind.i64) (Ty.prod Ty.bool (Ty.prod Ty.bool (Ty.prod (Ty.list (Ty.prod Ty.str Ty.str)) (Ty.list Ty.str)))))))))) l_904 Bool.false, jj, jj, jj, jj, AV.int IntKind.i64 s_915, jj, jj, jj, jj, jj, jj, jj, jj, jj, jj, jj, jj, jj, jj, jj, jj, jj, jj, jj, jj, jj, jj, jj, jj, jj, jj, jj, jj, jj, jj, jj] [] (0 : Nat)))) ((0 : Int))) (by kernel_rfl) ?_
    refine W.loop (fun (s_915 : Int) => (Cfg.mk Mode.run (headTodo Go.Proofs.Tryd.prog 23 0) (St.mk [AV.list (Ty.prod (Ty.int IntKind.i64) (Ty.prod Ty.str (Ty.prod Ty.str (Ty.prod Ty.str (Ty.prod (Ty.prod (Ty.int IntKind.i64) (Ty.prod (Ty.int IntKind.i64) (Ty.int IntKind.i64))) (Ty.prod (Ty.int IntKind.i64) (Ty.prod Ty.bool (Ty.prod Ty.bool (Ty.prod (Ty.list (Ty.prod Ty.str Ty.str)) (Ty.list Ty.str)))))))))) l_904 Bool.false, jj, jj, jj, jj, AV.int IntKind.i64 s_915, jj, jj, jj, jj, jj, jj, jj, jj, jj, jj, jj, jj, jj, jj, jj, jj, jj, jj, jj, jj, jj, jj, jj, jj, jj, jj, jj, jj, jj, jj, jj] [] (0 : Nat)))) (fun t => (Sum.elim (fun t_909 => r = (Bool.false)) (fun t_910 => Walk Go.Proofs.Tryd.prog 23 (Cfg.mk Mode.run ((headTodo Go.Proofs.Tryd.prog 23 0).drop 3) (St.mk [jj, jj, jj, jj, jj, jj, jj, jj, jj, jj, jj, jj, jj, jj, jj, jj, jj, jj, jj, jj, jj, jj, jj, jj, jj, jj, jj, jj, jj, jj, jj, jj, jj, jj, jj, jj, jj] [] (0 : Nat))) (cellarerlaw19_FewActs_res r) (cellarerlaw19_FewActs_out r))) t) h (fun t h => ?_) (fun s_915 x912 h912 K912 => ?_)
    ·
      rcases t with t_909 | t_910
      · replace h := W.inl (h)
        refine W.elimL (?_)
        exact (Option.some.inj h).symm
      · replace h := W.inr (h)
        refine W.elimR (?_)
        exact W.retT 0 100000 h (by kernel_rfl)
    · unfold cellarerlaw19_FewActs_b0 at h912
      refine W.cond 2 100000 h912 (by kernel_rfl) (fun h912 => ?_) (fun h912 => ?_)
      ·
        refine W.needT 2 100000 h912 (by kernel_rfl) (fun h912 => ?_)
        refine W.bind h912 fun a_908 ha_908 h912 => ?_
        refine W.call 2 100000 (by kernel_rfl) (cellarerlaw11_Few_con ha_908) (by kernel_rfl) ?_
        refine W.cond 2 100000 h912 (by kernel_rfl) (fun h912 => ?_) (fun h912 => ?_)
        ·
          cases h912; exact W.retK 2 100000 K912 (by kernel_rfl)
        ·
          cases h912; exact W.at 2 100000 [] [0, 5] (by kernel_rfl) K912
      ·
        cases h912; exact W.at 2 100000 [] [] (by kernel_rfl) K912

theorem cellarerlaw19_Few_con {x_917 : List UInt8} {x_918 : List UInt8} {x_919 : List (List (List UInt8 × List UInt8 × List UInt8))} {x_920 : List (List UInt8 × List UInt8 × List UInt8)} {x_921 : List (List UInt8)} {x_922 : List (List UInt8 × Int × (Int × Int × Int) × List UInt8 × Bool)} {x_923 : List (List UInt8 × List UInt8 × Bool)} {x_924 : List (Int × List UInt8 × List UInt8 × List UInt8 × (Int × Int × Int) × Int × Bool × Bool × List (List UInt8 × List UInt8) × List (List UInt8))} {x_925 : List (Int × List UInt8 × List UInt8 × List UInt8 × (Int × Int × Int) × Int × Bool × Bool × List (List UInt8 × List UInt8) × List (List UInt8))} {x_926 : List (Int × List UInt8 × List UInt8 × List UInt8 × (Int × Int × Int) × Int × Bool × Bool × List (List UInt8 × List UInt8) × List (List UInt8))} {x_927 : List (Int × List UInt8 × List UInt8 × List UInt8 × (Int × Int × Int) × Int × Bool × Bool × List (List UInt8 × List UInt8) × List (List UInt8))} {r : Bool} (h : cellarerlaw19_Few x_917 x_918 x_919 x_920 x_921 x_922 x_923 x_924 x_925 x_926 x_927 = some r) : Con Go.Proofs.Tryd.prog 6 [AV.agg [AV.str x_917, AV.str x_918, AV.list (Ty.list (Ty.prod Ty.str (Ty.prod Ty.str Ty.str))) x_919 Bool.false, AV.list (Ty.prod Ty.str (Ty.prod Ty.str Ty.str)) x_920 Bool.false, AV.list Ty.str x_921 Bool.false, AV.list (Ty.prod Ty.str (Ty.prod (Ty.int IntKind.i64) (Ty.prod (Ty.prod (Ty.int IntKind.i64) (Ty.prod (Ty.int IntKind.i64) (Ty.int IntKind.i64))) (Ty.prod Ty.str Ty.bool)))) x_922 Bool.false, AV.list (Ty.prod Ty.str (Ty.prod Ty.str Ty.bool)) x_923 Bool.false, AV.list (Ty.prod (Ty.int IntKind.i64) (Ty.prod Ty.str (Ty.prod Ty.str (Ty.prod Ty.str (Ty.prod (Ty.prod (Ty.int IntKind.i64) (Ty.prod (Ty.int IntKind.i64) (Ty.int IntKind.i64))) (Ty.prod (Ty.int IntKind.i64) (Ty.prod Ty.bool (Ty.prod Ty.bool (Ty.prod (Ty.list (Ty.prod Ty.str Ty.str)) (Ty.list Ty.str)))))))))) x_924 Bool.false, AV.list (Ty.prod (Ty.int IntKind.i64) (Ty.prod Ty.str (Ty.prod Ty.str (Ty.prod Ty.str (Ty.prod (Ty.prod (Ty.int IntKind.i64) (Ty.prod (Ty.int IntKind.i64) (Ty.int IntKind.i64))) (Ty.prod (Ty.int IntKind.i64) (Ty.prod Ty.bool (Ty.prod Ty.bool (Ty.prod (Ty.list (Ty.prod Ty.str Ty.str)) (Ty.list Ty.str)))))))))) x_925 Bool.false, AV.list (Ty.prod (Ty.int IntKind.i64) (Ty.prod Ty.str (Ty.prod Ty.str (Ty.prod Ty.str (Ty.prod (Ty.prod (Ty.int IntKind.i64) (Ty.prod (Ty.int IntKind.i64) (Ty.int IntKind.i64))) (Ty.prod (Ty.int IntKind.i64) (Ty.prod Ty.bool (Ty.prod Ty.bool (Ty.prod (Ty.list (Ty.prod Ty.str Ty.str)) (Ty.list Ty.str)))))))))) x_926 Bool.false, AV.list (Ty.prod (Ty.int IntKind.i64) (Ty.prod Ty.str (Ty.prod Ty.str (Ty.prod Ty.str (Ty.prod (Ty.prod (Ty.int IntKind.i64) (Ty.prod (Ty.int IntKind.i64) (Ty.int IntKind.i64))) (Ty.prod (Ty.int IntKind.i64) (Ty.prod Ty.bool (Ty.prod Ty.bool (Ty.prod (Ty.list (Ty.prod Ty.str Ty.str)) (Ty.list Ty.str)))))))))) x_927 Bool.false]] [] (cellarerlaw19_Few_res r) (cellarerlaw19_Few_out r) := by
  refine W.con (by kernel_rfl) ?_
  unfold cellarerlaw19_Few at h
  refine W.join (fun t => (Sum.elim (fun t_930 => r = (Bool.false)) (fun t_931 => Walk Go.Proofs.Tryd.prog 6 (Cfg.mk Mode.run (seqTodo Go.Proofs.Tryd.prog 6 1) (St.mk [jj, AV.ptr (0 : Nat) (0 : Nat), jj, jj, jj, jj, jj, jj, jj, jj, jj, jj, jj, jj, jj, jj, jj, jj, jj, jj, jj, jj, jj, jj, jj, jj, jj, jj, jj, jj, jj, jj, jj, jj, jj, jj, jj, jj, jj, jj, jj, jj, jj, jj, jj, jj, jj, jj, jj, jj, jj, jj, jj, jj, jj, jj, jj, jj, jj, jj, jj, jj, jj, jj, jj, jj, jj, jj, jj, jj] [AO.box [AV.str x_917, AV.str x_918, AV.list (Ty.list (Ty.prod Ty.str (Ty.prod Ty.str Ty.str))) x_919 Bool.false, AV.list (Ty.prod Ty.str (Ty.prod Ty.str Ty.str)) x_920 Bool.false, AV.list Ty.str x_921 Bool.false, AV.list (Ty.prod Ty.str (Ty.prod (Ty.int IntKind.i64) (Ty.prod (Ty.prod (Ty.int IntKind.i64) (Ty.prod (Ty.int IntKind.i64) (Ty.int IntKind.i64))) (Ty.prod Ty.str Ty.bool)))) x_922 Bool.false, AV.list (Ty.prod Ty.str (Ty.prod Ty.str Ty.bool)) x_923 Bool.false, AV.list (Ty.prod (Ty.int IntKind.i64) (Ty.prod Ty.str (Ty.prod Ty.str (Ty.prod Ty.str (Ty.prod (Ty.prod (Ty.int IntKind.i64) (Ty.prod (Ty.int IntKind.i64) (Ty.int IntKind.i64))) (Ty.prod (Ty.int IntKind.i64) (Ty.prod Ty.bool (Ty.prod Ty.bool (Ty.prod (Ty.list (Ty.prod Ty.str Ty.str)) (Ty.list Ty.str)))))))))) x_924 Bool.false, AV.list (Ty.prod (Ty.int IntKind.i64) (Ty.prod Ty.str (Ty.prod Ty.str (Ty.prod Ty.str (Ty.prod (Ty.prod (Ty.int IntKind.i64) (Ty.prod (Ty.int IntKind.i64) (Ty.int IntKind.i64))) (Ty.prod (Ty.int IntKind.i64) (Ty.prod Ty.bool (Ty.prod Ty.bool (Ty.prod (Ty.list (Ty.prod Ty.str Ty.str)) (Ty.list Ty.str)))))))))) x_925 Bool.false, AV.list (Ty.prod (Ty.int IntKind.i64) (Ty.prod Ty.str (Ty.prod Ty.str (Ty.prod Ty.str (Ty.prod (Ty.prod (Ty.int IntKind.i64) (Ty.prod (Ty.int IntKind.i64) (Ty.int IntKind.i64))) (Ty.prod (Ty.int IntKind.i64) (Ty.prod Ty.bool (Ty.prod Ty.bool (Ty.prod (Ty.list (Ty.prod Ty.str Ty.str)) (Ty.list Ty.str)))))))))) x_926 Bool.false, AV.list (Ty.prod (Ty.int IntKind.i64) (Ty.prod Ty.str (Ty.prod Ty.str (Ty.prod Ty.str (Ty.prod (Ty.prod (Ty.int IntKind.i64) (Ty.prod (Ty.int IntKind.i64) (Ty.int IntKind.i64))) (Ty.prod (Ty.int IntKind.i64) (Ty.prod Ty.bool (Ty.prod Ty.bool (Ty.prod (Ty.list (Ty.prod Ty.str Ty.str)) (Ty.list Ty.str)))))))))) x_927 Bool.false]] (0 : Nat))) (cellarerlaw19_Few_res r) (cellarerlaw19_Few_out r))) t) h (fun t h => ?_) (fun t953 h953 K953 => ?_)
  ·
    rcases t with t_930 | t_931
    · replace h := W.inl (h)
      refine W.elimL (?_)
      exact (Option.some.inj h).symm
    · replace h := W.inr (h)
      refine W.elimR (?_)
      refine W.at 0 100000 [] [1, 3, 4] (c' := (fun (s_956 : Int × Int) => (Cfg.mk Mode.run (headTodo Go.Proofs.Tryd.prog 6 0) (St.mk [jj, AV.ptr (0 : Nat) (0 : Nat), jj, AV.int IntKind.i64 (Prod.fst s_956), AV.int IntKind.i64 (Prod.snd s_956), jj, jj, jj, jj, jj, jj, jj, jj, jj, jj, jj, jj, jj, jj, jj, jj, jj, jj, jj, jj, jj, jj, jj, jj, jj, jj, jj, jj, jj, jj, jj, jj, jj, jj, jj, jj, jj, jj, jj, jj, jj, jj, jj, jj, jj, jj, jj, jj, jj, jj, jj, jj, jj, jj, jj, jj, jj, jj, jj, jj, jj, jj, jj, jj, jj] [AO.box [AV.str x_917, AV.str x_918, AV.list (Ty.list (Ty.prod Ty.str (Ty.prod Ty.str Ty.str))) x_919 Bool.false, AV.list (Ty.prod Ty.str (Ty.prod Ty.str Ty.str)) x_920 Bool.false, AV.list Ty.str x_921 Bool.false, AV.list (Ty.prod Ty.str (Ty.prod (Ty.int IntKind.i64) (Ty.prod (Ty.prod (Ty.int IntKind.i64) (Ty.prod (Ty.int IntKind.i64) (Ty.int IntKind.i64))) (Ty.prod Ty.str Ty.bool)))) x_922 Bool.false, AV.list (Ty.prod Ty.str (Ty.prod Ty.str Ty.bool)) x_923 Bool.false, AV.list (Ty.prod (Ty.int IntKind.i64) (Ty.prod Ty.str (Ty.prod Ty.str (Ty.prod Ty.str (Ty.prod (Ty.prod (Ty.int IntKind.i64) (Ty.prod (Ty.int IntKind.i64) (Ty.int IntKind.i64))) (Ty.prod (Ty.int IntKind.i64) (Ty.prod Ty.bool (Ty.prod Ty.bool (Ty.prod (Ty.list (Ty.prod Ty.str Ty.str)) (Ty.list Ty.str)))))))))) x_924 Bool.false, AV.list (Ty.prod (Ty.int IntKind.i64) (Ty.prod Ty.str (Ty.prod Ty.str (Ty.prod Ty.str (Ty.prod (Ty.prod (Ty.int IntKind.i64) (Ty.prod (Ty.int IntKind.i64) (Ty.int IntKind.i64))) (Ty.prod (Ty.int IntKind.i64) (Ty.prod Ty.bool (Ty.prod Ty.bool (Ty.prod (Ty.list (Ty.prod Ty.str Ty.str)) (Ty.list Ty.str)))))))))) x_925 Bool.false, AV.list (Ty.prod (Ty.int IntKind.i64) (Ty.prod Ty.str (Ty.prod Ty.str (Ty.prod Ty.str (Ty.prod (Ty.prod (Ty.int IntKind.i64) (Ty.prod (Ty.int IntKind.i64) (Ty.int IntKind.i64))) (Ty.prod (Ty.int IntKind.i64) (Ty.prod Ty.bool (Ty.prod Ty.bool (Ty.prod (Ty.list (Ty.prod Ty.str Ty.str)) (Ty.list Ty.str)))))))))) x_926 Bool.false, AV.list (Ty.prod (Ty.int IntKind.i64) (Ty.prod Ty.str (Ty.prod Ty.str (Ty.prod Ty.str (Ty.prod (Ty.prod (Ty.int IntKind.i64) (Ty.prod (Ty.int IntKind.i64) (Ty.int IntKind.i64))) (Ty.prod (Ty.int IntKind.i64) (Ty.prod Ty.bool (Ty.prod Ty.bool (Ty.prod (Ty.list (Ty.prod Ty.str Ty.str)) (Ty.list Ty.str)))))))))) x_927 Bool.false]] (0 : Nat)))) ((0 : Int), (0 : Int))) (by kernel_rfl) ?_
      refine W.loop (fun (s_956 : Int × Int) => (Cfg.mk Mode.run (headTodo Go.Proofs.Tryd.prog 6 0) (St.mk [jj, AV.ptr (0 : Nat) (0 : Nat), jj, AV.int IntKind.i64 (Prod.fst s_956), AV.int IntKind.i64 (Prod.snd s_956), jj, jj, jj, jj, jj, jj, jj, jj, jj, jj, jj, jj, jj, jj, jj, jj, jj, jj, jj, jj, jj, jj, jj, jj, jj, jj, jj, jj, jj, jj, jj, jj, jj, jj, jj, jj, jj, jj, jj, jj, jj, jj, jj, jj, jj, jj, jj, jj, jj, jj, jj, jj, jj, jj, jj, jj, jj, jj, jj, jj, jj, jj, jj, jj, jj] [AO.box [AV.str x_917, AV.str x_918, AV.list (Ty.list (Ty.prod Ty.str (Ty.prod Ty.str Ty.str))) x_919 Bool.false, AV.list (Ty.prod Ty.str (Ty.prod Ty.str Ty.str)) x_920 Bool.false, AV.list Ty.str x_921 Bool.false, AV.list (Ty.prod Ty.str (Ty.prod (Ty.int IntKind.i64) (Ty.prod (Ty.prod (Ty.int IntKind.i64) (Ty.prod (Ty.int IntKind.i64) (Ty.int IntKind.i64))) (Ty.prod Ty.str Ty.bool)))) x_922 Bool.false, AV.list (Ty.prod Ty.str (Ty.prod Ty.str Ty.bool)) x_923 Bool.false, AV.list (Ty.prod (Ty.int IntKind.i64) (Ty.prod Ty.str (Ty.prod Ty.str (Ty.prod Ty.str (Ty.prod (Ty.prod (Ty.int IntKind.i64) (Ty.prod (Ty.int IntKind.i64) (Ty.int IntKind.i64))) (Ty.prod (Ty.int IntKind.i64) (Ty.prod Ty.bool (Ty.prod Ty.bool (Ty.prod (Ty.list (Ty.prod Ty.str Ty.str)) (Ty.list Ty.str)))))))))) x_924 Bool.false, AV.list (Ty.prod (Ty.int IntKind.i64) (Ty.prod Ty.str (Ty.prod Ty.str (Ty.prod Ty.str (Ty.prod (Ty.prod (Ty.int IntKind.i64) (Ty.prod (Ty.int IntKind.i64) (Ty.int IntKind.i64))) (Ty.prod (Ty.int IntKind.i64) (Ty.prod Ty.bool (Ty.prod Ty.bool (Ty.prod (Ty.list (Ty.prod Ty.str Ty.str)) (Ty.list Ty.str)))))))))) x_925 Bool.false, AV.list (Ty.prod (Ty.int IntKind.i64) (Ty.prod Ty.str (Ty.prod Ty.str (Ty.prod Ty.str (Ty.prod (Ty.prod (Ty.int IntKind.i64) (Ty.prod (Ty.int IntKind.i64) (Ty.int IntKind.i64))) (Ty.prod (Ty.int IntKind.i64) (Ty.prod Ty.bool (Ty.prod Ty.bool (Ty.prod (Ty.list (Ty.prod Ty.str Ty.str)) (Ty.list Ty.str)))))))))) x_926 Bool.false, AV.list (Ty.prod (Ty.int IntKind.i64) (Ty.prod Ty.str (Ty.prod Ty.str (Ty.prod Ty.str (Ty.prod (Ty.prod (Ty.int IntKind.i64) (Ty.prod (Ty.int IntKind.i64) (Ty.int IntKind.i64))) (Ty.prod (Ty.int IntKind.i64) (Ty.prod Ty.bool (Ty.prod Ty.bool (Ty.prod (Ty.list (Ty.prod Ty.str Ty.str)) (Ty.list Ty.str)))))))))) x_927 Bool.false]] (0 : Nat)))) (fun t => (Sum.elim (fun t_945 => r = (Bool.false)) (fun t_946 => Walk Go.Proofs.Tryd.prog 6 (Cfg.mk Mode.run ((headTodo Go.Proofs.Tryd.prog 6 0).drop 3) (St.mk [jj, AV.ptr (0 : Nat) (0 : Nat), jj, jj, jj, jj, jj, jj, jj, jj, jj, jj, jj, jj, jj, jj, jj, jj, jj, jj, jj, jj, jj, jj, jj, jj, jj, jj, jj, jj, jj, jj, jj, jj, jj, jj, jj, jj, jj, jj, jj, jj, jj, jj, jj, jj, jj, jj, jj, jj, jj, jj, jj, jj, jj, jj, jj, jj, jj, jj, jj, jj, jj, jj, jj, jj, jj, jj, jj, jj] [AO.box [AV.str x_917, AV.str x_918, AV.list (Ty.list (Ty.prod Ty.str (Ty.prod Ty.str Ty.str))) x_919 Bool.false, AV.list (Ty.prod Ty.str (Ty.prod Ty.str Ty.str)) x_920 Bool.false, AV.list Ty.str x_921 Bool.false, AV.list (Ty.prod Ty.str (Ty.prod (Ty.int IntKind.i64) (Ty.prod (Ty.prod (Ty.int IntKind.i64) (Ty.prod (Ty.int IntKind.i64) (Ty.int IntKind.i64))) (Ty.prod Ty.str Ty.bool)))) x_922 Bool.false, AV.list (Ty.prod Ty.str (Ty.prod Ty.str Ty.bool)) x_923 Bool.false, AV.list (Ty.prod (Ty.int IntKind.i64) (Ty.prod Ty.str (Ty.prod Ty.str (Ty.prod Ty.str (Ty.prod (Ty.prod (Ty.int IntKind.i64) (Ty.prod (Ty.int IntKind.i64) (Ty.int IntKind.i64))) (Ty.prod (Ty.int IntKind.i64) (Ty.prod Ty.bool (Ty.prod Ty.bool (Ty.prod (Ty.list (Ty.prod Ty.str Ty.str)) (Ty.list Ty.str)))))))))) x_924 Bool.false, AV.list (Ty.prod (Ty.int IntKind.i64) (Ty.prod Ty.str (Ty.prod Ty.str (Ty.prod Ty.str (Ty.prod (Ty.prod (Ty.int IntKind.i64) (Ty.prod (Ty.int IntKind.i64) (Ty.int IntKind.i64))) (Ty.prod (Ty.int IntKind.i64) (Ty.prod Ty.bool (Ty.prod Ty.bool (Ty.prod (Ty.list (Ty.prod Ty.str Ty.str)) (Ty.list Ty.str)))))))))) x_925 Bool.false, AV.list (Ty.prod (Ty.int IntKind.i64) (Ty.prod Ty.str (Ty.prod Ty.str (Ty.prod Ty.str (Ty.prod (Ty.prod (Ty.int IntKind.i64) (Ty.prod (Ty.int IntKind.i64) (Ty.int IntKind.i64))) (Ty.prod (Ty.int IntKind.i64) (Ty.prod Ty.bool (Ty.prod Ty.bool (Ty.prod (Ty.list (Ty.prod Ty.str Ty.str)) (Ty.list Ty.str)))))))))) x_926 Bool.false, AV.list (Ty.prod (Ty.int IntKind.i64) (Ty.prod Ty.str (Ty.prod Ty.str (Ty.prod Ty.str (Ty.prod (Ty.prod (Ty.int IntKind.i64) (Ty.prod (Ty.int IntKind.i64) (Ty.int IntKind.i64))) (Ty.prod (Ty.int IntKind.i64) (Ty.prod Ty.bool (Ty.prod Ty.bool (Ty.prod (Ty.list (Ty.prod Ty.str Ty.str)) (Ty.list Ty.str)))))))))) x_927 Bool.false]] (0 : Nat))) (cellarerlaw19_Few_res r) (cellarerlaw19_Few_out r))) t) h (fun t h => ?_) (fun s_956 x952 h952 K952 => ?_)
      ·
        rcases t with t_945 | t_946
        · replace h := W.inl (h)
          refine W.elimL (?_)
          exact (Option.some.inj h).symm
        · replace h := W.inr (h)
          refine W.elimR (?_)
          refine W.over 0 100000 (by kernel_rfl) ?_
          refine W.yes 0 100000 (by kernel_rfl) ?_
          refine W.need 0 100000 (p := (0 : Int) ≤ (0 : Int) ∧ (0 : Int) < (↑(4 : Nat) : Int)) (by kernel_rfl) (by decide) ?_
          refine W.bind h fun a_947 ha_947 h => ?_
          refine W.call 0 100000 (by kernel_rfl) (cellarerlaw19_FewActs_con ha_947) (by kernel_rfl) ?_
          refine W.cond 0 100000 h (by kernel_rfl) (fun h => ?_) (fun h => ?_)
          ·
            exact W.retT 0 100000 h (by kernel_rfl)
          ·
            refine W.over 0 100000 (by kernel_rfl) ?_
            refine W.yes 0 100000 (by kernel_rfl) ?_
            refine W.need 0 100000 (p := (0 : Int) ≤ IntKind.wrap IntKind.i64 ((0 : Int) + (1 : Int)) ∧ IntKind.wrap IntKind.i64 ((0 : Int) + (1 : Int)) < (↑(4 : Nat) : Int)) (by kernel_rfl) (by decide) ?_
            refine W.bind h fun a_948 ha_948 h => ?_
            refine W.call 0 100000 (by kernel_rfl) (cellarerlaw19_FewActs_con ha_948) (by kernel_rfl) ?_
            refine W.cond 0 100000 h (by kernel_rfl) (fun h => ?_) (fun h => ?_)
            ·
              exact W.retT 0 100000 h (by kernel_rfl)
            ·
              refine W.over 0 100000 (by kernel_rfl) ?_
              refine W.yes 0 100000 (by kernel_rfl) ?_
              refine W.need 0 100000 (p := (0 : Int) ≤ IntKind.wrap IntKind.i64 (IntKind.wrap IntKind.i64 ((0 : Int) + (1 : Int)) + (1 : Int)) ∧ IntKind.wrap IntKind.i64 (IntKind.wrap IntKind.i64 ((0 : Int) + (1 : Int)) + (1 : Int)) < (↑(4 : Nat) : Int)) (by kernel_rfl) (by decide) ?_
              refine W.bind h fun a_949 ha_949 h => ?_
              refine W.call 0 100000 (by kernel_rfl) (cellarerlaw19_FewActs_con ha_949) (by kernel_rfl) ?_
              refine W.cond 0 100000 h (by kernel_rfl) (fun h => ?_) (fun h => ?_)
              ·
                exact W.retT 0 100000 h (by kernel_rfl)
              ·
                refine W.over 0 100000 (by kernel_rfl) ?_
                refine W.yes 0 100000 (by kernel_rfl) ?_
                refine W.need 0 100000 (p := (0 : Int) ≤ IntKind.wrap IntKind.i64 (IntKind.wrap IntKind.i64 (IntKind.wrap IntKind.i64 ((0 : Int) + (1 : Int)) + (1 : Int)) + (1 : Int)) ∧ IntKind.wrap IntKind.i64 (IntKind.wrap IntKind.i64 (IntKind.wrap IntKind.i64 ((0 : Int) + (1 : Int)) + (1 : Int)) + (1 : Int)) < (↑(4 : Nat) : Int)) (by kernel_rfl) (by decide) ?_
                refine W.bind h fun a_950 ha_950 h => ?_
                refine W.call 0 100000 (by kernel_rfl) (cellarerlaw19_FewActs_con ha_950) (by kernel_rfl) ?_
                refine W.cond 0 100000 h (by kernel_rfl) (fun h => ?_) (fun h => ?_)
                ·
                  exact W.retT 0 100000 h (by kernel_rfl)
                ·
                  refine W.over 0 100000 (by kernel_rfl) ?_
                  refine W.no 0 100000 (by kernel_rfl) ?_
                  exact W.retT 0 100000 h (by kernel_rfl)
      · unfold cellarerlaw19_Few_b0 at h952
        refine W.cond 2 100000 h952 (by kernel_rfl) (fun h952 => ?_) (fun h952 => ?_)
        ·
          refine W.needT 2 100000 h952 (by kernel_rfl) (fun h952 => ?_)
          refine W.needT 2 100000 h952 (by kernel_rfl) (fun h952 => ?_)
          refine W.cond 2 100000 h952 (by kernel_rfl) (fun h952 => ?_) (fun h952 => ?_)
          ·
            cases h952; exact W.retK 2 100000 K952 (by kernel_rfl)
          ·
            cases h952; exact W.at 2 100000 [] [1, 3, 4] (by kernel_rfl) K952
        ·
          cases h952; exact W.at 2 100000 [] [1] (by kernel_rfl) K952
  · refine W.next 0 6 (by kernel_rfl) ?_
    refine W.cond 1 100000 h953 (by kernel_rfl) (fun h953 => ?_) (fun h953 => ?_)
    ·
      refine W.yes 1 100000 (by kernel_rfl) ?_
      refine W.yes 1 100000 (by kernel_rfl) ?_
      refine W.yes 1 100000 (by kernel_rfl) ?_
      refine W.yes 1 100000 (by kernel_rfl) ?_
      refine W.yes 1 100000 (by kernel_rfl) ?_
      refine W.yes 1 100000 (by kernel_rfl) ?_
      refine W.yes 1 100000 (by kernel_rfl) ?_
      refine W.yes 1 100000 (by kernel_rfl) ?_
      refine W.yes 1 100000 (by kernel_rfl) ?_
      refine W.yes 1 100000 (by kernel_rfl) ?_
      refine W.yes 1 100000 (by kernel_rfl) ?_
      refine W.yes 1 100000 (by kernel_rfl) ?_
      refine W.yes 1 100000 (by kernel_rfl) ?_
      refine W.yes 1 100000 (by kernel_rfl) ?_
      refine W.yes 1 100000 (by kernel_rfl) ?_
      refine W.yes 1 100000 (by kernel_rfl) ?_
      refine W.yes 1 100000 (by kernel_rfl) ?_
      refine W.yes 1 100000 (by kernel_rfl) ?_
      refine W.yes 1 100000 (by kernel_rfl) ?_
      refine W.yes 1 100000 (by kernel_rfl) ?_
      cases h953; exact W.retK 1 100000 K953 (by kernel_rfl)
    ·
      refine W.no 1 100000 (by kernel_rfl) ?_
      refine W.no 1 100000 (by kernel_rfl) ?_
      refine W.no 1 100000 (by kernel_rfl) ?_
      refine W.no 1 100000 (by kernel_rfl) ?_
      refine W.no 1 100000 (by kernel_rfl) ?_
      refine W.no 1 100000 (by kernel_rfl) ?_
      refine W.no 1 100000 (by kernel_rfl) ?_
      refine W.no 1 100000 (by kernel_rfl) ?_
      refine W.no 1 100000 (by kernel_rfl) ?_
      refine W.no 1 100000 (by kernel_rfl) ?_
      refine W.no 1 100000 (by kernel_rfl) ?_
      refine W.no 1 100000 (by kernel_rfl) ?_
      refine W.bind h953 fun a_928 ha_928 h953 => ?_
      refine W.call 1 100000 (by kernel_rfl) (cellarerlaw08_Few_con ha_928) (by kernel_rfl) ?_
      refine W.no 1 100000 (by kernel_rfl) ?_
      refine W.no 1 100000 (by kernel_rfl) ?_
      refine W.cond 1 100000 h953 (by kernel_rfl) (fun h953 => ?_) (fun h953 => ?_)
      ·
        refine W.yes 1 100000 (by kernel_rfl) ?_
        refine W.yes 1 100000 (by kernel_rfl) ?_
        refine W.yes 1 100000 (by kernel_rfl) ?_
        refine W.yes 1 100000 (by kernel_rfl) ?_
        refine W.yes 1 100000 (by kernel_rfl) ?_
        cases h953; exact W.retK 1 100000 K953 (by kernel_rfl)
      ·
        refine W.no 1 100000 (by kernel_rfl) ?_
        refine W.no 1 100000 (by kernel_rfl) ?_
        refine W.bind h953 fun a_929 ha_929 h953 => ?_
        refine W.call 1 100000 (by kernel_rfl) (cellarerlaw12_Few_con ha_929) (by kernel_rfl) ?_
        refine W.no 1 100000 (by kernel_rfl) ?_
        refine W.no 1 100000 (by kernel_rfl) ?_
        refine W.cond 1 100000 h953 (by kernel_rfl) (fun h953 => ?_) (fun h953 => ?_)
        ·
          cases h953; exact W.retK 1 100000 K953 (by kernel_rfl)
        ·
          cases h953; exact W.at 1 100000 [] [1] (by kernel_rfl) K953

theorem cellarerlaw20_few_con {st_958 : List (List UInt8 × List UInt8 × Int × List (List (List UInt8 × List UInt8 × List UInt8)) × List (List UInt8 × List UInt8 × List UInt8) × List (List UInt8) × List (List UInt8 × List UInt8) × List (List UInt8) × List (List UInt8))} {st_959 : List (List UInt8 × List UInt8 × List UInt8)} {st_960 : List (List UInt8 × Int × Int × Int)} {st_961 : List (List UInt8 × List UInt8 × Bool × List UInt8 × List (List UInt8 × List UInt8) × List (List UInt8 × Int × List (List UInt8)))} {st_962 : List (List UInt8 × List UInt8 × Bool)} {st_963 : List (List UInt8 × List (List UInt8))} {st_964 : List (List UInt8 × List (List UInt8))} {r : Bool} (h : cellarerlaw20_few st_958 st_959 st_960 st_961 st_962 st_963 st_964 = some r) : Con Go.Proofs.Tryd.prog 5 [AV.agg [AV.list (Ty.prod Ty.str (Ty.prod Ty.str (Ty.prod (Ty.int IntKind.i64) (Ty.prod (Ty.list (Ty.list (Ty.prod Ty.str (Ty.prod Ty.str Ty.str)))) (Ty.prod (Ty.list (Ty.prod Ty.str (Ty.prod Ty.str Ty.str))) (Ty.prod (Ty.list Ty.str) (Ty.prod (Ty.list (Ty.prod Ty.str Ty.str)) (Ty.prod (Ty.list Ty.str) (Ty.list Ty.str))))))))) st_958 Bool.false, AV.list (Ty.prod Ty.str (Ty.prod Ty.str Ty.str)) st_959 Bool.false, AV.list (Ty.prod Ty.str (Ty.prod (Ty.int IntKind.i64) (Ty.prod (Ty.int IntKind.i64) (Ty.int IntKind.i64)))) st_960 Bool.false, AV.list (Ty.prod Ty.str (Ty.prod Ty.str (Ty.prod Ty.bool (Ty.prod Ty.str (Ty.prod (Ty.list (Ty.prod Ty.str Ty.str)) (Ty.list (Ty.prod Ty.str (Ty.prod (Ty.int IntKind.i64) (Ty.list Ty.str))))))))) st_961 Bool.false, AV.list (Ty.prod Ty.str (Ty.prod Ty.str Ty.bool)) st_962 Bool.false, AV.list (Ty.prod Ty.str (Ty.list Ty.str)) st_963 Bool.false, AV.list (Ty.prod Ty.str (Ty.list Ty.str)) st_964 Bool.false]] [] (cellarerlaw20_few_res r) (cellarerlaw20_few_out r) := by
  refine W.con (by kernel_rfl) ?_
  unfold cellarerlaw20_few at h
  refine W.bind h fun a_965 ha_965 h => ?_
  refine W.call 0 100000 (by kernel_rfl) (cellarerlaw08_Few_con ha_965) (by kernel_rfl) ?_
  refine W.cond 0 100000 h (by kernel_rfl) (fun h => ?_) (fun h => ?_)
  ·
    refine W.yes 0 100000 (by kernel_rfl) ?_
    refine W.yes 0 100000 (by kernel_rfl) ?_
    refine W.bind h fun a_966 ha_966 h => ?_
    refine W.call 0 100000 (by kernel_rfl) (cellarerlaw13_Few_con ha_966) (by kernel_rfl) ?_
    refine W.yes 0 100000 (by kernel_rfl) ?_
    refine W.cond 0 100000 h (by kernel_rfl) (fun h => ?_) (fun h => ?_)
    ·
      refine W.yes 0 100000 (by kernel_rfl) ?_
      refine W.yes 0 100000 (by kernel_rfl) ?_
      refine W.bind h fun a_967 ha_967 h => ?_
      refine W.call 0 100000 (by kernel_rfl) (cellarerlaw09_Few_con ha_967) (by kernel_rfl) ?_
      refine W.yes 0 100000 (by kernel_rfl) ?_
      exact W.retT 0 100000 h (by kernel_rfl)
    ·
      refine W.no 0 100000 (by kernel_rfl) ?_
      refine W.no 0 100000 (by kernel_rfl) ?_
      refine W.no 0 100000 (by kernel_rfl) ?_
      exact W.retT 0 100000 h (by kernel_rfl)
  ·
    refine W.no 0 100000 (by kernel_rfl) ?_
    refine W.no 0 100000 (by kernel_rfl) ?_
    refine W.no 0 100000 (by kernel_rfl) ?_
    refine W.no 0 100000 (by kernel_rfl) ?_
    refine W.no 0 100000 (by kernel_rfl) ?_
    refine W.no 0 100000 (by kernel_rfl) ?_
    refine W.no 0 100000 (by kernel_rfl) ?_
    exact W.retT 0 100000 h (by kernel_rfl)

theorem check_There_con {l_971 : List (List UInt8 × List UInt8 × Int × List (List (List UInt8 × List UInt8 × List UInt8)) × List (List UInt8 × List UInt8 × List UInt8) × List (List UInt8) × List (List UInt8 × List UInt8) × List (List UInt8) × List (List UInt8))} {r : List (List UInt8 × List UInt8 × List UInt8)} (h : check_There l_971 = some r) : Con Go.Proofs.Tryd.prog 9 [AV.list (Ty.prod Ty.str (Ty.prod Ty.str (Ty.prod (Ty.int IntKind.i64) (Ty.prod (Ty.list (Ty.list (Ty.prod Ty.str (Ty.prod Ty.str Ty.str)))) (Ty.prod (Ty.list (Ty.prod Ty.str (Ty.prod Ty.str Ty.str))) (Ty.prod (Ty.list Ty.str) (Ty.prod (Ty.list (Ty.prod Ty.str Ty.str)) (Ty.prod (Ty.list Ty.str) (Ty.list Ty.str))))))))) l_971 Bool.false] [] (check_There_res r) (check_There_out r) := by
  refine W.con (by kernel_rfl) ?_
  unfold check_There at h
  refine W.at 0 100000 [Co.own 3 (Ty.prod Ty.str (Ty.prod Ty.str Ty.str))] [3, 6, 7, 8] (c' := (fun (s_985 : Int × List (List UInt8 × List UInt8 × List UInt8)) => (Cfg.mk Mode.run (headTodo Go.Proofs.Tryd.prog 9 0) (St.mk [jj, jj, jj, AV.view (0 : Nat) (0 : Nat) Option.none, jj, jj, AV.list (Ty.prod Ty.str (Ty.prod Ty.str (Ty.prod (Ty.int IntKind.i64) (Ty.prod (Ty.list (Ty.list (Ty.prod Ty.str (Ty.prod Ty.str Ty.str)))) (Ty.prod (Ty.list (Ty.prod Ty.str (Ty.prod Ty.str Ty.str))) (Ty.prod (Ty.list Ty.str) (Ty.prod (Ty.list (Ty.prod Ty.str Ty.str)) (Ty.prod (Ty.list Ty.str) (Ty.list Ty.str))))))))) l_971 Bool.false, AV.int IntKind.i64 (↑(List.length l_971) : Int), AV.int IntKind.i64 (Prod.fst s_985), jj, jj, jj, jj, jj, jj, jj, jj, jj, jj, jj, jj, jj, jj, jj, jj, jj, jj, jj, jj, jj] [AO.row (Ty.prod Ty.str (Ty.prod Ty.str Ty.str)) (Prod.snd s_985)] (0 : Nat)))) ((0 : Int), [])) (by kernel_rfl) ?_
  refine W.loop (fun (s_985 : Int × List (List UInt8 × List UInt8 × List UInt8)) => (Cfg.mk Mode.run (headTodo Go.Proofs.Tryd.prog 9 0) (St.mk [jj, jj, jj, AV.view (0 : Nat) (0 : Nat) Option.none, jj, jj, AV.list (Ty.prod Ty.str (Ty.prod Ty.str (Ty.prod (Ty.int IntKind.i64) (Ty.prod (Ty.list (Ty.list (Ty.prod Ty.str (Ty.prod Ty.str Ty.str)))) (Ty.prod (Ty.list (Ty.prod Ty.str (Ty.prod Ty.str Ty.str))) (Ty.prod (Ty.list Ty.str) (Ty.prod (Ty.list (Ty.prod Ty.str Ty.str)) (Ty.prod (Ty.list Ty.str) (Ty.list Ty.str))))))))) l_971 Bool.false, AV.int IntKind.i64 (↑(List.length l_971) : Int), AV.int IntKind.i64 (Prod.fst s_985), jj, jj, jj, jj, jj, jj, jj, jj, jj, jj, jj, jj, jj, jj, jj, jj, jj, jj, jj, jj, jj] [AO.row (Ty.prod Ty.str (Ty.prod Ty.str Ty.str)) (Prod.snd s_985)] (0 : Nat)))) (fun t_980 => Walk Go.Proofs.Tryd.prog 9 (Cfg.mk Mode.run ((headTodo Go.Proofs.Tryd.prog 9 0).drop 3) (St.mk [jj, jj, jj, AV.view (0 : Nat) (0 : Nat) Option.none, jj, jj, jj, jj, jj, jj, jj, jj, jj, jj, jj, jj, jj, jj, jj, jj, jj, jj, jj, jj, jj, jj, jj, jj, jj, jj] [AO.row (Ty.prod Ty.str (Ty.prod Ty.str Ty.str)) t_980] (0 : Nat))) (check_There_res r) (check_There_out r)) h (fun t_980 h => ?_) (fun s_985 x982 h982 K982 => ?_)
  ·
    exact W.retT 0 100000 h (by kernel_rfl)
  · unfold check_There_b0 at h982
    refine W.cond 2 100000 h982 (by kernel_rfl) (fun h982 => ?_) (fun h982 => ?_)
    ·
      refine W.needT 2 100000 h982 (by kernel_rfl) (fun h982 => ?_)
      refine W.cond 2 100000 h982 (by kernel_rfl) (fun h982 => ?_) (fun h982 => ?_)
      ·
        refine W.yes 2 100000 (by kernel_rfl) ?_
        refine W.yes 2 100000 (by kernel_rfl) ?_
        refine W.yes 2 100000 (by kernel_rfl) ?_
        refine W.yes 2 100000 (by kernel_rfl) ?_
        refine W.needT 2 100000 h982 (by kernel_rfl) (fun h982 => ?_)
        cases h982; exact W.at 2 100000 [Co.own 3 (Ty.prod Ty.str (Ty.prod Ty.str Ty.str))] [3, 6, 7, 8] (by kernel_rfl) K982
      ·
        refine W.no 2 100000 (by kernel_rfl) ?_
        refine W.no 2 100000 (by kernel_rfl) ?_
        refine W.no 2 100000 (by kernel_rfl) ?_
        refine W.cond 2 100000 h982 (by kernel_rfl) (fun h982 => ?_) (fun h982 => ?_)
        ·
          refine W.needT 2 100000 h982 (by kernel_rfl) (fun h982 => ?_)
          cases h982; exact W.at 2 100000 [Co.own 3 (Ty.prod Ty.str (Ty.prod Ty.str Ty.str))] [3, 6, 7, 8] (by kernel_rfl) K982
        ·
          cases h982; exact W.at 2 100000 [Co.own 3 (Ty.prod Ty.str (Ty.prod Ty.str Ty.str))] [3, 6, 7, 8] (by kernel_rfl) K982
    ·
      cases h982; exact W.at 2 100000 [] [3] (by kernel_rfl) K982

theorem cellarerref20_There_con {l_987 : List (List UInt8 × List UInt8 × Int × List (List (List UInt8 × List UInt8 × List UInt8)) × List (List UInt8 × List UInt8 × List UInt8) × List (List UInt8) × List (List UInt8 × List UInt8) × List (List UInt8) × List (List UInt8))} {r : List (List UInt8 × List UInt8 × List UInt8)} (h : cellarerref20_There l_987 = some r) : Con Go.Proofs.Tryd.prog 10 [AV.list (Ty.prod Ty.str (Ty.prod Ty.str (Ty.prod (Ty.int IntKind.i64) (Ty.prod (Ty.list (Ty.list (Ty.prod Ty.str (Ty.prod Ty.str Ty.str)))) (Ty.prod (Ty.list (Ty.prod Ty.str (Ty.prod Ty.str Ty.str))) (Ty.prod (Ty.list Ty.str) (Ty.prod (Ty.list (Ty.prod Ty.str Ty.str)) (Ty.prod (Ty.list Ty.str) (Ty.list Ty.str))))))))) l_987 Bool.false] [] (cellarerref20_There_res r) (cellarerref20_There_out r) := by
  refine W.con (by kernel_rfl) ?_
  unfold cellarerref20_There at h
  refine W.at 0 100000 [Co.own 3 (Ty.prod Ty.str (Ty.prod Ty.str Ty.str))] [0, 3, 4] (c' := (fun (s_999 : Int × List (List UInt8 × List UInt8 × List UInt8)) => (Cfg.mk Mode.run (headTodo Go.Proofs.Tryd.prog 10 0) (St.mk [AV.list (Ty.prod Ty.str (Ty.prod Ty.str (Ty.prod (Ty.int IntKind.i64) (Ty.prod (Ty.list (Ty.list (Ty.prod Ty.str (Ty.prod Ty.str Ty.str)))) (Ty.prod (Ty.list (Ty.prod Ty.str (Ty.prod Ty.str Ty.str))) (Ty.prod (Ty.list Ty.str) (Ty.prod (Ty.list (Ty.prod Ty.str Ty.str)) (Ty.prod (Ty.list Ty.str) (Ty.list Ty.str))))))))) l_987 Bool.false, jj, jj, AV.view (0 : Nat) (0 : Nat) Option.none, AV.int IntKind.i64 (Prod.fst s_999), jj, jj, jj, jj, jj, jj, jj, jj, jj, jj, jj, jj, jj, jj, jj, jj, jj, jj, jj, jj, jj, jj, jj, jj, jj, jj, jj, jj, jj, jj, jj, jj, jj, jj, jj] [AO.row (Ty.prod Ty.str (Ty.prod Ty.str Ty.str)) (Prod.snd s_999)] (0 : Nat)))) ((0 : Int), [])) (by kernel_rfl) ?_
  refine W.loop (fun (s_999 : Int × List (List UInt8 × List UInt8 × List UInt8)) => (Cfg.mk Mode.run (headTodo Go.Proofs.Tryd.prog 10 0) (St.mk [AV.list (Ty.prod Ty.str (Ty.prod Ty.str (Ty.prod (Ty.int IntKind.i64) (Ty.prod (Ty.list (Ty.list (Ty.prod Ty.str (Ty.prod Ty.str Ty.str)))) (Ty.prod (Ty.list (Ty.prod Ty.str (Ty.prod Ty.str Ty.str))) (Ty.prod (Ty.list Ty.str) (Ty.prod (Ty.list (Ty.prod Ty.str Ty.str)) (Ty.prod (Ty.list Ty.str) (Ty.list Ty.str))))))))) l_987 Bool.false, jj, jj, AV.view (0 : Nat) (0 : Nat) Option.none, AV.int IntKind.i64 (Prod.fst s_999), jj, jj, jj, jj, jj, jj, jj, jj, jj, jj, jj, jj, jj, jj, jj, jj, jj, jj, jj, jj, jj, jj, jj, jj, jj, jj, jj, jj, jj, jj, jj, jj, jj, jj, jj] [AO.row (Ty.prod Ty.str (Ty.prod Ty.str Ty.str)) (Prod.snd s_999)] (0 : Nat)))) (fun t_994 => Walk Go.Proofs.Tryd.prog 10 (Cfg.mk Mode.run ((headTodo Go.Proofs.Tryd.prog 10 0).drop 3) (St.mk [jj, jj, jj, AV.view (0 : Nat) (0 : Nat) Option.none, jj, jj, jj, jj, jj, jj, jj, jj, jj, jj, jj, jj, jj, jj, jj, jj, jj, jj, jj, jj, jj, jj, jj, jj, jj, jj, jj, jj, jj, jj, jj, jj, jj, jj, jj, jj] [AO.row (Ty.prod Ty.str (Ty.prod Ty.str Ty.str)) t_994] (0 : Nat))) (cellarerref20_There_res r) (cellarerref20_There_out r)) h (fun t_994 h => ?_) (fun s_999 x996 h996 K996 => ?_)
  ·
    exact W.retT 0 100000 h (by kernel_rfl)
  · unfold cellarerref20_There_b0 at h996
    refine W.cond 2 100000 h996 (by kernel_rfl) (fun h996 => ?_) (fun h996 => ?_)
    ·
      refine W.needT 2 100000 h996 (by kernel_rfl) (fun h996 => ?_)
      refine W.cond 2 100000 h996 (by kernel_rfl) (fun h996 => ?_) (fun h996 => ?_)
      ·
        refine W.yes 2 100000 (by kernel_rfl) ?_
        refine W.yes 2 100000 (by kernel_rfl) ?_
        refine W.yes 2 100000 (by kernel_rfl) ?_
        refine W.yes 2 100000 (by kernel_rfl) ?_
        refine W.yes 2 100000 (by kernel_rfl) ?_
        refine W.yes 2 100000 (by kernel_rfl) ?_
        refine W.yes 2 100000 (by kernel_rfl) ?_
        refine W.needT 2 100000 h996 (by kernel_rfl) (fun h996 => ?_)
        refine W.needT 2 100000 h996 (by kernel_rfl) (fun h996 => ?_)
        refine W.needT 2 100000 h996 (by kernel_rfl) (fun h996 => ?_)
        cases h996; exact W.at 2 100000 [Co.own 3 (Ty.prod Ty.str (Ty.prod Ty.str Ty.str))] [0, 3, 4] (by kernel_rfl) K996
      ·
        refine W.no 2 100000 (by kernel_rfl) ?_
        refine W.no 2 100000 (by kernel_rfl) ?_
        refine W.needT 2 100000 h996 (by kernel_rfl) (fun h996 => ?_)
        refine W.no 2 100000 (by kernel_rfl) ?_
        refine W.no 2 100000 (by kernel_rfl) ?_
        refine W.no 2 100000 (by kernel_rfl) ?_
        refine W.no 2 100000 (by kernel_rfl) ?_
        refine W.cond 2 100000 h996 (by kernel_rfl) (fun h996 => ?_) (fun h996 => ?_)
        ·
          refine W.needT 2 100000 h996 (by kernel_rfl) (fun h996 => ?_)
          refine W.needT 2 100000 h996 (by kernel_rfl) (fun h996 => ?_)
          refine W.needT 2 100000 h996 (by kernel_rfl) (fun h996 => ?_)
          cases h996; exact W.at 2 100000 [Co.own 3 (Ty.prod Ty.str (Ty.prod Ty.str Ty.str))] [0, 3, 4] (by kernel_rfl) K996
        ·
          cases h996; exact W.at 2 100000 [Co.own 3 (Ty.prod Ty.str (Ty.prod Ty.str Ty.str))] [0, 3, 4] (by kernel_rfl) K996
    ·
      cases h996; exact W.at 2 100000 [] [3] (by kernel_rfl) K996

theorem cellarerlaw20_ints_con {a_1002 : List Int} {b_1003 : List Int} {r : Bool} (h : cellarerlaw20_ints a_1002 b_1003 = some r) : Con Go.Proofs.Tryd.prog 11 [AV.list (Ty.int IntKind.i64) a_1002 Bool.false, AV.list (Ty.int IntKind.i64) b_1003 Bool.false] [] (cellarerlaw20_ints_res r) (cellarerlaw20_ints_out r) := by
  refine W.con (by kernel_rfl) ?_
  unfold cellarerlaw20_ints at h
  refine W.cond 0 100000 h (by kernel_rfl) (fun h => ?_) (fun h => ?_)
  ·
    exact W.retT 0 100000 h (by kernel_rfl)
  ·
    refine W.at 0 100000 [] [0, 1, 5] (c' := (fun (s_1013 : Int) => (Cfg.mk Mode.run (headTodo Go.Proofs.Tryd.prog 11 0) (St.mk [AV.list (Ty.int IntKind.i64) a_1002 Bool.false, AV.list (Ty.int IntKind.i64) b_1003 Bool.false, jj, jj, jj, AV.int IntKind.i64 s_1013, jj, jj, jj, jj, jj, jj, jj, jj, jj, jj, jj, jj, jj, jj, jj, jj, jj, jj, jj, jj] [] (0 : Nat)))) ((0 : Int))) (by kernel_rfl) ?_
    refine W.loop (fun (s_1013 : Int) => (Cfg.mk Mode.run (headTodo Go.Proofs.Tryd.prog 11 0) (St.mk [AV.list (Ty.int IntKind.i64) a_1002 Bool.false, AV.list (Ty.int IntKind.i64) b_1003 Bool.false, jj, jj, jj, AV.int IntKind.i64 s_1013, jj, jj, jj, jj, jj, jj, jj, jj, jj, jj, jj, jj, jj, jj, jj, jj, jj, jj, jj, jj] [] (0 : Nat)))) (fun t => (Sum.elim (fun t_1007 => r = (Bool.false)) (fun t_1008 => Walk Go.Proofs.Tryd.prog 11 (Cfg.mk Mode.run ((headTodo Go.Proofs.Tryd.prog 11 0).drop 3) (St.mk [jj, jj, jj, jj, jj, jj, jj, jj, jj, jj, jj, jj, jj, jj, jj, jj, jj, jj, jj, jj, jj, jj, jj, jj, jj, jj] [] (0 : Nat))) (cellarerlaw20_ints_res r) (cellarerlaw20_ints_out r))) t) h (fun t h => ?_) (fun s_1013 x1010 h1010 K1010 => ?_)
    ·
      rcases t with t_1007 | t_1008
      · replace h := W.inl (h)
        refine W.elimL (?_)
        exact (Option.some.inj h).symm
      · replace h := W.inr (h)
        refine W.elimR (?_)
        exact W.retT 0 100000 h (by kernel_rfl)
    · unfold cellarerlaw20_ints_b0 at h1010
      refine W.cond 2 100000 h1010 (by kernel_rfl) (fun h1010 => ?_) (fun h1010 => ?_)
      ·
        refine W.needT 2 100000 h1010 (by kernel_rfl) (fun h1010 => ?_)
        refine W.needT 2 100000 h1010 (by kernel_rfl) (fun h1010 => ?_)
        refine W.cond 2 100000 h1010 (by kernel_rfl) (fun h1010 => ?_) (fun h1010 => ?_)
        ·
          cases h1010; exact W.retK 2 100000 K1010 (by kernel_rfl)
        ·
          cases h1010; exact W.at 2 100000 [] [0, 1, 5] (by kernel_rfl) K1010
      ·
        cases h1010; exact W.at 2 100000 [] [] (by kernel_rfl) K1010

theorem check_Missing_con {st_1016 : List (List UInt8 × List UInt8 × Int × List (List (List UInt8 × List UInt8 × List UInt8)) × List (List UInt8 × List UInt8 × List UInt8) × List (List UInt8) × List (List UInt8 × List UInt8) × List (List UInt8) × List (List UInt8))} {st_1017 : List (List UInt8 × List UInt8 × List UInt8)} {st_1018 : List (List UInt8 × Int × Int × Int)} {st_1019 : List (List UInt8 × List UInt8 × Bool × List UInt8 × List (List UInt8 × List UInt8) × List (List UInt8 × Int × List (List UInt8)))} {st_1020 : List (List UInt8 × List UInt8 × Bool)} {st_1021 : List (List UInt8 × List (List UInt8))} {st_1022 : List (List UInt8 × List (List UInt8))} {l_1023 : List (List (List UInt8 × List UInt8 × List UInt8))} {r : List Int} (h : check_Missing st_1016 st_1017 st_1018 st_1019 st_1020 st_1021 st_1022 l_1023 = some r) : Con Go.Proofs.Tryd.prog 12 [AV.agg [AV.list (Ty.prod Ty.str (Ty.prod Ty.str (Ty.prod (Ty.int IntKind.i64) (Ty.prod (Ty.list (Ty.list (Ty.prod Ty.str (Ty.prod Ty.str Ty.str)))) (Ty.prod (Ty.list (Ty.prod Ty.str (Ty.prod Ty.str Ty.str))) (Ty.prod (Ty.list Ty.str) (Ty.prod (Ty.list (Ty.prod Ty.str Ty.str)) (Ty.prod (Ty.list Ty.str) (Ty.list Ty.str))))))))) st_1016 Bool.false, AV.list (Ty.prod Ty.str (Ty.prod Ty.str Ty.str)) st_1017 Bool.false, AV.list (Ty.prod Ty.str (Ty.prod (Ty.int IntKind.i64) (Ty.prod (Ty.int IntKind.i64) (Ty.int IntKind.i64)))) st_1018 Bool.false, AV.list (Ty.prod Ty.str (Ty.prod Ty.str (Ty.prod Ty.bool (Ty.prod Ty.str (Ty.prod (Ty.list (Ty.prod Ty.str Ty.str)) (Ty.list (Ty.prod Ty.str (Ty.prod (Ty.int IntKind.i64) (Ty.list Ty.str))))))))) st_1019 Bool.false, AV.list (Ty.prod Ty.str (Ty.prod Ty.str Ty.bool)) st_1020 Bool.false, AV.list (Ty.prod Ty.str (Ty.list Ty.str)) st_1021 Bool.false, AV.list (Ty.prod Ty.str (Ty.list Ty.str)) st_1022 Bool.false], AV.list (Ty.list (Ty.prod Ty.str (Ty.prod Ty.str Ty.str))) l_1023 Bool.false] [] (check_Missing_res r) (check_Missing_out r) := by
  refine W.con (by kernel_rfl) ?_
  unfold check_Missing at h
  refine W.bind h fun a_1024 ha_1024 h => ?_
  refine W.call 0 100000 (by kernel_rfl) (check_There_con ha_1024) (by kernel_rfl) ?_
  refine W.bind h fun a_1025 ha_1025 h => ?_
  refine W.call 0 100000 (by kernel_rfl) (relation_Lacks_con ha_1025) (by kernel_rfl) ?_
  exact W.retT 0 100000 h (by kernel_rfl)

theorem cellarerref20_Missing_con {st_1030 : List (List UInt8 × List UInt8 × Int × List (List (List UInt8 × List UInt8 × List UInt8)) × List (List UInt8 × List UInt8 × List UInt8) × List (List UInt8) × List (List UInt8 × List UInt8) × List (List UInt8) × List (List UInt8))} {st_1031 : List (List UInt8 × List UInt8 × List UInt8)} {st_1032 : List (List UInt8 × Int × Int × Int)} {st_1033 : List (List UInt8 × List UInt8 × Bool × List UInt8 × List (List UInt8 × List UInt8) × List (List UInt8 × Int × List (List UInt8)))} {st_1034 : List (List UInt8 × List UInt8 × Bool)} {st_1035 : List (List UInt8 × List (List UInt8))} {st_1036 : List (List UInt8 × List (List UInt8))} {l_1037 : List (List (List UInt8 × List UInt8 × List UInt8))} {r : List Int} (h : cellarerref20_Missing st_1030 st_1031 st_1032 st_1033 st_1034 st_1035 st_1036 l_1037 = some r) : Con Go.Proofs.Tryd.prog 13 [AV.agg [AV.list (Ty.prod Ty.str (Ty.prod Ty.str (Ty.prod (Ty.int IntKind.i64) (Ty.prod (Ty.list (Ty.list (Ty.prod Ty.str (Ty.prod Ty.str Ty.str)))) (Ty.prod (Ty.list (Ty.prod Ty.str (Ty.prod Ty.str Ty.str))) (Ty.prod (Ty.list Ty.str) (Ty.prod (Ty.list (Ty.prod Ty.str Ty.str)) (Ty.prod (Ty.list Ty.str) (Ty.list Ty.str))))))))) st_1030 Bool.false, AV.list (Ty.prod Ty.str (Ty.prod Ty.str Ty.str)) st_1031 Bool.false, AV.list (Ty.prod Ty.str (Ty.prod (Ty.int IntKind.i64) (Ty.prod (Ty.int IntKind.i64) (Ty.int IntKind.i64)))) st_1032 Bool.false, AV.list (Ty.prod Ty.str (Ty.prod Ty.str (Ty.prod Ty.bool (Ty.prod Ty.str (Ty.prod (Ty.list (Ty.prod Ty.str Ty.str)) (Ty.list (Ty.prod Ty.str (Ty.prod (Ty.int IntKind.i64) (Ty.list Ty.str))))))))) st_1033 Bool.false, AV.list (Ty.prod Ty.str (Ty.prod Ty.str Ty.bool)) st_1034 Bool.false, AV.list (Ty.prod Ty.str (Ty.list Ty.str)) st_1035 Bool.false, AV.list (Ty.prod Ty.str (Ty.list Ty.str)) st_1036 Bool.false], AV.list (Ty.list (Ty.prod Ty.str (Ty.prod Ty.str Ty.str))) l_1037 Bool.false] [] (cellarerref20_Missing_res r) (cellarerref20_Missing_out r) := by
  refine W.con (by kernel_rfl) ?_
  unfold cellarerref20_Missing at h
  refine W.bind h fun a_1038 ha_1038 h => ?_
  refine W.call 0 100000 (by kernel_rfl) (cellarerref20_There_con ha_1038) (by kernel_rfl) ?_
  refine W.bind h fun a_1039 ha_1039 h => ?_
  refine W.call 0 100000 (by kernel_rfl) (cellarerref07_Lacks_con ha_1039) (by kernel_rfl) ?_
  exact W.retT 0 100000 h (by kernel_rfl)

theorem cellarerref02_Same_con {a_1044 : List (List UInt8)} {b_1045 : List (List UInt8)} {r : Bool} (h : cellarerref02_Same a_1044 b_1045 = some r) : Con Go.Proofs.Tryd.prog 14 [AV.list Ty.str a_1044 Bool.false, AV.list Ty.str b_1045 Bool.false] [] (cellarerref02_Same_res r) (cellarerref02_Same_out r) := by
  refine W.con (by kernel_rfl) ?_
  unfold cellarerref02_Same at h
  refine W.cond 0 100000 h (by kernel_rfl) (fun h => ?_) (fun h => ?_)
  ·
    exact W.retT 0 100000 h (by kernel_rfl)
  ·
    refine W.at 0 100000 [] [0, 1, 5] (c' := (fun (s_1055 : Int) => (Cfg.mk Mode.run (headTodo Go.Proofs.Tryd.prog 14 0) (St.mk [AV.list Ty.str a_1044 Bool.false, AV.list Ty.str b_1045 Bool.false, jj, jj, jj, AV.int IntKind.i64 s_1055, jj, jj, jj, jj, jj, jj, jj, jj, jj, jj, jj, jj, jj, jj, jj, jj, jj, jj, jj, jj] [] (0 : Nat)))) ((0 : Int))) (by kernel_rfl) ?_
    refine W.loop (fun (s_1055 : Int) => (Cfg.mk Mode.run (headTodo Go.Proofs.Tryd.prog 14 0) (St.mk [AV.list Ty.str a_1044 Bool.false, AV.list Ty.str b_1045 Bool.false, jj, jj, jj, AV.int IntKind.i64 s_1055, jj, jj, jj, jj, jj, jj, jj, jj, jj, jj, jj, jj, jj, jj, jj, jj, jj, jj, jj, jj] [] (0 : Nat)))) (fun t => (Sum.elim (fun t_1049 => r = (Bool.false)) (fun t_1050 => Walk Go.Proofs.Tryd.prog 14 (Cfg.mk Mode.run ((headTodo Go.Proofs.Tryd.prog 14 0).drop 3) (St.mk [jj, jj, jj, jj, jj, jj, jj, jj, jj, jj, jj, jj, jj, jj, jj, jj, jj, jj, jj, jj, jj, jj, jj, jj, jj, jj] [] (0 : Nat))) (cellarerref02_Same_res r) (cellarerref02_Same_out r))) t) h (fun t h => ?_) (fun s_1055 x1052 h1052 K1052 => ?_)
    ·
      rcases t with t_1049 | t_1050
      · replace h := W.inl (h)
        refine W.elimL (?_)
        exact (Option.some.inj h).symm
      · replace h := W.inr (h)
        refine W.elimR (?_)
        exact W.retT 0 100000 h (by kernel_rfl)
    · unfold cellarerref02_Same_b0 at h1052
      refine W.cond 2 100000 h1052 (by kernel_rfl) (fun h1052 => ?_) (fun h1052 => ?_)
      ·
        refine W.needT 2 100000 h1052 (by kernel_rfl) (fun h1052 => ?_)
        refine W.needT 2 100000 h1052 (by kernel_rfl) (fun h1052 => ?_)
        refine W.cond 2 100000 h1052 (by kernel_rfl) (fun h1052 => ?_) (fun h1052 => ?_)
        ·
          cases h1052; exact W.retK 2 100000 K1052 (by kernel_rfl)
        ·
          cases h1052; exact W.at 2 100000 [] [0, 1, 5] (by kernel_rfl) K1052
      ·
        cases h1052; exact W.at 2 100000 [] [] (by kernel_rfl) K1052

theorem api_Record__35_con {s_1063 : List (List UInt8 × List UInt8 × Int × List (List (List UInt8 × List UInt8 × List UInt8)) × List (List UInt8 × List UInt8 × List UInt8) × List (List UInt8) × List (List UInt8 × List UInt8) × List (List UInt8) × List (List UInt8))} {r : List (List UInt8 × List UInt8 × Int × List (List (List UInt8 × List UInt8 × List UInt8)) × List (List UInt8 × List UInt8 × List UInt8) × List (List UInt8) × List (List UInt8 × List UInt8) × List (List UInt8) × List (List UInt8))} (h : api_Record__35 s_1063 = some r) : Con Go.Proofs.Tryd.prog 35 [AV.list (Ty.prod Ty.str (Ty.prod Ty.str (Ty.prod (Ty.int IntKind.i64) (Ty.prod (Ty.list (Ty.list (Ty.prod Ty.str (Ty.prod Ty.str Ty.str)))) (Ty.prod (Ty.list (Ty.prod Ty.str (Ty.prod Ty.str Ty.str))) (Ty.prod (Ty.list Ty.str) (Ty.prod (Ty.list (Ty.prod Ty.str Ty.str)) (Ty.prod (Ty.list Ty.str) (Ty.list Ty.str))))))))) s_1063 Bool.false] [] (api_Record__35_res r) (api_Record__35_out r) := by
  refine W.con (by kernel_rfl) ?_
  unfold api_Record__35 at h
  refine W.mayb 0 100000 h (by kernel_rfl) (fun h => ?_) (fun h => ?_)
  ·
    exact W.retT 0 100000 h (by kernel_rfl)
  ·
    refine W.needT 0 100000 h (by kernel_rfl) (fun h => ?_)
    exact W.retT 0 100000 h (by kernel_rfl)

theorem status_Drop_1_con {x_1075 : List UInt8} {x_1076 : List UInt8} {x_1077 : Int} {x_1078 : List (List (List UInt8 × List UInt8 × List UInt8))} {x_1079 : List (List UInt8 × List UInt8 × List UInt8)} {x_1080 : List (List UInt8)} {x_1081 : List (List UInt8 × List UInt8)} {x_1082 : List (List UInt8)} {x_1083 : List (List UInt8)} {o0_1084 : List UInt8} {r : Bool × List UInt8} (h : status_Drop_1 x_1075 x_1076 x_1077 x_1078 x_1079 x_1080 x_1081 x_1082 x_1083 o0_1084 = some r) : Con Go.Proofs.Tryd.prog 36 [AV.agg [AV.str x_1075, AV.str x_1076, AV.int IntKind.i64 x_1077, AV.list (Ty.list (Ty.prod Ty.str (Ty.prod Ty.str Ty.str))) x_1078 Bool.false, AV.list (Ty.prod Ty.str (Ty.prod Ty.str Ty.str)) x_1079 Bool.false, AV.list Ty.str x_1080 Bool.false, AV.list (Ty.prod Ty.str Ty.str) x_1081 Bool.false, AV.list Ty.str x_1082 Bool.false, AV.list Ty.str x_1083 Bool.false], AV.ptr (0 : Nat) (0 : Nat)] [AO.box [AV.str o0_1084]] (status_Drop_1_res r) (status_Drop_1_out r) := by
  refine W.con (by kernel_rfl) ?_
  unfold status_Drop_1 at h
  exact W.retT 0 100000 h (by kernel_rfl)

theorem api_Record__44_con {s_1069 : List (List UInt8 × List UInt8 × Int × List (List (List UInt8 × List UInt8 × List UInt8)) × List (List UInt8 × List UInt8 × List UInt8) × List (List UInt8) × List (List UInt8 × List UInt8) × List (List UInt8) × List (List UInt8))} {o0_1070 : List UInt8} {r : Int × List UInt8} (h : api_Record__44 s_1069 o0_1070 = some r) : Con Go.Proofs.Tryd.prog 44 [AV.list (Ty.prod Ty.str (Ty.prod Ty.str (Ty.prod (Ty.int IntKind.i64) (Ty.prod (Ty.list (Ty.list (Ty.prod Ty.str (Ty.prod Ty.str Ty.str)))) (Ty.prod (Ty.list (Ty.prod Ty.str (Ty.prod Ty.str Ty.str))) (Ty.prod (Ty.list Ty.str) (Ty.prod (Ty.list (Ty.prod Ty.str Ty.str)) (Ty.prod (Ty.list Ty.str) (Ty.list Ty.str))))))))) s_1069 Bool.false, AV.func (Go.Fn.func (36 : Nat)) [] [AV.ptr (0 : Nat) (0 : Nat)]] [AO.box [AV.str o0_1070]] (api_Record__44_res r) (api_Record__44_out r) := by
  refine W.con (by kernel_rfl) ?_
  unfold api_Record__44 at h
  refine W.at 0 100000 [] [0, 1, 7, 8] (c' := (fun (s_1099 : Int × List UInt8) => (Cfg.mk Mode.run (headTodo Go.Proofs.Tryd.prog 44 0) (St.mk [AV.list (Ty.prod Ty.str (Ty.prod Ty.str (Ty.prod (Ty.int IntKind.i64) (Ty.prod (Ty.list (Ty.list (Ty.prod Ty.str (Ty.prod Ty.str Ty.str)))) (Ty.prod (Ty.list (Ty.prod Ty.str (Ty.prod Ty.str Ty.str))) (Ty.prod (Ty.list Ty.str) (Ty.prod (Ty.list (Ty.prod Ty.str Ty.str)) (Ty.prod (Ty.list Ty.str) (Ty.list Ty.str))))))))) s_1069 Bool.false, AV.func (Go.Fn.func (36 : Nat)) [] [AV.ptr (0 : Nat) (0 : Nat)], jj, jj, jj, jj, jj, AV.int IntKind.i64 (↑(List.length s_1069) : Int), AV.int IntKind.i64 (Prod.fst s_1099), jj, jj, jj, jj, jj, jj, jj, jj, jj, jj] [AO.box [AV.str (Prod.snd s_1099)]] (1 : Nat)))) ((0 : Int), o0_1070)) (by kernel_rfl) ?_
  refine W.loop (fun (s_1099 : Int × List UInt8) => (Cfg.mk Mode.run (headTodo Go.Proofs.Tryd.prog 44 0) (St.mk [AV.list (Ty.prod Ty.str (Ty.prod Ty.str (Ty.prod (Ty.int IntKind.i64) (Ty.prod (Ty.list (Ty.list (Ty.prod Ty.str (Ty.prod Ty.str Ty.str)))) (Ty.prod (Ty.list (Ty.prod Ty.str (Ty.prod Ty.str Ty.str))) (Ty.prod (Ty.list Ty.str) (Ty.prod (Ty.list (Ty.prod Ty.str Ty.str)) (Ty.prod (Ty.list Ty.str) (Ty.list Ty.str))))))))) s_1069 Bool.false, AV.func (Go.Fn.func (36 : Nat)) [] [AV.ptr (0 : Nat) (0 : Nat)], jj, jj, jj, jj, jj, AV.int IntKind.i64 (↑(List.length s_1069) : Int), AV.int IntKind.i64 (Prod.fst s_1099), jj, jj, jj, jj, jj, jj, jj, jj, jj, jj] [AO.box [AV.str (Prod.snd s_1099)]] (1 : Nat)))) (fun t => (Sum.elim (fun t_1091 => r = (Prod.fst t_1091, Prod.snd t_1091)) (fun t_1093 => Walk Go.Proofs.Tryd.prog 44 (Cfg.mk Mode.run ((headTodo Go.Proofs.Tryd.prog 44 0).drop 3) (St.mk [jj, jj, jj, jj, jj, jj, jj, jj, jj, jj, jj, jj, jj, jj, jj, jj, jj, jj, jj] [AO.box [AV.str t_1093]] (1 : Nat))) (api_Record__44_res r) (api_Record__44_out r))) t) h (fun t h => ?_) (fun s_1099 x1095 h1095 K1095 => ?_)
  ·
    rcases t with t_1091 | t_1093
    · replace h := W.inl (h)
      refine W.elimL (?_)
      exact (Option.some.inj h).symm
    · replace h := W.inr (h)
      refine W.elimR (?_)
      exact W.retT 0 100000 h (by kernel_rfl)
  · unfold api_Record__44_b0 at h1095
    refine W.cond 2 100000 h1095 (by kernel_rfl) (fun h1095 => ?_) (fun h1095 => ?_)
    ·
      refine W.needT 2 100000 h1095 (by kernel_rfl) (fun h1095 => ?_)
      refine W.bind h1095 fun a_1088 ha_1088 h1095 => ?_
      refine W.call 2 100000 (by kernel_rfl) (status_Drop_1_con ha_1088) (by kernel_rfl) ?_
      refine W.cond 2 100000 h1095 (by kernel_rfl) (fun h1095 => ?_) (fun h1095 => ?_)
      ·
        cases h1095; exact W.retK 2 100000 K1095 (by kernel_rfl)
      ·
        cases h1095; exact W.at 2 100000 [] [0, 1, 7, 8] (by kernel_rfl) K1095
    ·
      cases h1095; exact W.at 2 100000 [] [] (by kernel_rfl) K1095

theorem api_Record__34_con {o0_1067 : List UInt8} {o1_1068 : List (List UInt8 × List UInt8 × Int × List (List (List UInt8 × List UInt8 × List UInt8)) × List (List UInt8 × List UInt8 × List UInt8) × List (List UInt8) × List (List UInt8 × List UInt8) × List (List UInt8) × List (List UInt8))} {r : List UInt8 × List (List UInt8 × List UInt8 × Int × List (List (List UInt8 × List UInt8 × List UInt8)) × List (List UInt8 × List UInt8 × List UInt8) × List (List UInt8) × List (List UInt8 × List UInt8) × List (List UInt8) × List (List UInt8))} (h : api_Record__34 o0_1067 o1_1068 = some r) : Con Go.Proofs.Tryd.prog 34 [AV.view (1 : Nat) (0 : Nat) Option.none, AV.func (Go.Fn.func (36 : Nat)) [] [AV.ptr (0 : Nat) (0 : Nat)]] [AO.box [AV.str o0_1067], AO.row (Ty.prod Ty.str (Ty.prod Ty.str (Ty.prod (Ty.int IntKind.i64) (Ty.prod (Ty.list (Ty.list (Ty.prod Ty.str (Ty.prod Ty.str Ty.str)))) (Ty.prod (Ty.list (Ty.prod Ty.str (Ty.prod Ty.str Ty.str))) (Ty.prod (Ty.list Ty.str) (Ty.prod (Ty.list (Ty.prod Ty.str Ty.str)) (Ty.prod (Ty.list Ty.str) (Ty.list Ty.str))))))))) o1_1068] (api_Record__34_res r) (api_Record__34_out r) := by
  refine W.con (by kernel_rfl) ?_
  unfold api_Record__34 at h
  refine W.bind h fun a_1100 ha_1100 h => ?_
  refine W.call 0 100000 (by kernel_rfl) (api_Record__44_con ha_1100) (by kernel_rfl) ?_
  refine W.cond 0 100000 h (by kernel_rfl) (fun h => ?_) (fun h => ?_)
  ·
    exact W.retT 0 100000 h (by kernel_rfl)
  ·
    refine W.at 0 100000 [] [0, 1, 5, 6] (c' := (fun (s_1115 : Int × Int × List UInt8 × List (List UInt8 × List UInt8 × Int × List (List (List UInt8 × List UInt8 × List UInt8)) × List (List UInt8 × List UInt8 × List UInt8) × List (List UInt8) × List (List UInt8 × List UInt8) × List (List UInt8) × List (List UInt8))) => (Cfg.mk Mode.run (headTodo Go.Proofs.Tryd.prog 34 0) (St.mk [AV.view (1 : Nat) (0 : Nat) Option.none, AV.func (Go.Fn.func (36 : Nat)) [] [AV.ptr (0 : Nat) (0 : Nat)], jj, jj, jj, AV.int IntKind.i64 (Prod.fst s_1115), AV.int IntKind.i64 (Prod.fst (Prod.snd s_1115)), jj, jj, jj, jj, jj, jj, jj, jj, jj, jj, jj, jj, jj, jj, jj, jj, jj, jj, jj, jj, jj, jj, jj, jj, jj, jj, jj, jj, jj, jj, jj, jj, jj, jj, jj] [AO.box [AV.str (Prod.fst (Prod.snd (Prod.snd s_1115)))], AO.row (Ty.prod Ty.str (Ty.prod Ty.str (Ty.prod (Ty.int IntKind.i64) (Ty.prod (Ty.list (Ty.list (Ty.prod Ty.str (Ty.prod Ty.str Ty.str)))) (Ty.prod (Ty.list (Ty.prod Ty.str (Ty.prod Ty.str Ty.str))) (Ty.prod (Ty.list Ty.str) (Ty.prod (Ty.list (Ty.prod Ty.str Ty.str)) (Ty.prod (Ty.list Ty.str) (Ty.list Ty.str))))))))) (Prod.snd (Prod.snd (Prod.snd s_1115)))] (2 : Nat)))) (Prod.fst a_1100, IntKind.wrap IntKind.i64 (Prod.fst a_1100 + (1 : Int)), Prod.snd a_1100, o1_1068)) (by kernel_rfl) ?_
    refine W.loop (fun (s_1115 : Int × Int × List UInt8 × List (List UInt8 × List UInt8 × Int × List (List (List UInt8 × List UInt8 × List UInt8)) × List (List UInt8 × List UInt8 × List UInt8) × List (List UInt8) × List (List UInt8 × List UInt8) × List (List UInt8) × List (List UInt8))) => (Cfg.mk Mode.run (headTodo Go.Proofs.Tryd.prog 34 0) (St.mk [AV.view (1 : Nat) (0 : Nat) Option.none, AV.func (Go.Fn.func (36 : Nat)) [] [AV.ptr (0 : Nat) (0 : Nat)], jj, jj, jj, AV.int IntKind.i64 (Prod.fst s_1115), AV.int IntKind.i64 (Prod.fst (Prod.snd s_1115)), jj, jj, jj, jj, jj, jj, jj, jj, jj, jj, jj, jj, jj, jj, jj, jj, jj, jj, jj, jj, jj, jj, jj, jj, jj, jj, jj, jj, jj, jj, jj, jj, jj, jj, jj] [AO.box [AV.str (Prod.fst (Prod.snd (Prod.snd s_1115)))], AO.row (Ty.prod Ty.str (Ty.prod Ty.str (Ty.prod (Ty.int IntKind.i64) (Ty.prod (Ty.list (Ty.list (Ty.prod Ty.str (Ty.prod Ty.str Ty.str)))) (Ty.prod (Ty.list (Ty.prod Ty.str (Ty.prod Ty.str Ty.str))) (Ty.prod (Ty.list Ty.str) (Ty.prod (Ty.list (Ty.prod Ty.str Ty.str)) (Ty.prod (Ty.list Ty.str) (Ty.list Ty.str))))))))) (Prod.snd (Prod.snd (Prod.snd s_1115)))] (2 : Nat)))) (fun t_1109 => Walk Go.Proofs.Tryd.prog 34 (Cfg.mk Mode.run ((headTodo Go.Proofs.Tryd.prog 34 0).drop 3) (St.mk [AV.view (1 : Nat) (0 : Nat) Option.none, jj, jj, jj, jj, AV.int IntKind.i64 (Prod.fst t_1109), jj, jj, jj, jj, jj, jj, jj, jj, jj, jj, jj, jj, jj, jj, jj, jj, jj, jj, jj, jj, jj, jj, jj, jj, jj, jj, jj, jj, jj, jj, jj, jj, jj, jj, jj, jj] [AO.box [AV.str (Prod.fst (Prod.snd t_1109))], AO.row (Ty.prod Ty.str (Ty.prod Ty.str (Ty.prod (Ty.int IntKind.i64) (Ty.prod (Ty.list (Ty.list (Ty.prod Ty.str (Ty.prod Ty.str Ty.str)))) (Ty.prod (Ty.list (Ty.prod Ty.str (Ty.prod Ty.str Ty.str))) (Ty.prod (Ty.list Ty.str) (Ty.prod (Ty.list (Ty.prod Ty.str Ty.str)) (Ty.prod (Ty.list Ty.str) (Ty.list Ty.str))))))))) (Prod.snd (Prod.snd t_1109))] (2 : Nat))) (api_Record__34_res r) (api_Record__34_out r)) h (fun t_1109 h => ?_) (fun s_1115 x1111 h1111 K1111 => ?_)
    ·
      refine W.needT 0 100000 h (by kernel_rfl) (fun h => ?_)
      refine W.needT 0 100000 h (by kernel_rfl) (fun h => ?_)
      exact W.retT 0 100000 h (by kernel_rfl)
    · unfold api_Record__34_b0 at h1111
      refine W.cond 2 100000 h1111 (by kernel_rfl) (fun h1111 => ?_) (fun h1111 => ?_)
      ·
        refine W.needT 2 100000 h1111 (by kernel_rfl) (fun h1111 => ?_)
        refine W.needT 2 100000 h1111 (by kernel_rfl) (fun h1111 => ?_)
        refine W.bind h1111 fun a_1105 ha_1105 h1111 => ?_
        refine W.call 2 100000 (by kernel_rfl) (status_Drop_1_con ha_1105) (by kernel_rfl) ?_
        refine W.cond 2 100000 h1111 (by kernel_rfl) (fun h1111 => ?_) (fun h1111 => ?_)
        ·
          refine W.needT 2 100000 h1111 (by kernel_rfl) (fun h1111 => ?_)
          refine W.needT 2 100000 h1111 (by kernel_rfl) (fun h1111 => ?_)
          cases h1111; exact W.at 2 100000 [] [0, 1, 5, 6] (by kernel_rfl) K1111
        ·
          cases h1111; exact W.at 2 100000 [] [0, 1, 5, 6] (by kernel_rfl) K1111
      ·
        cases h1111; exact W.at 2 100000 [] [0, 5] (by kernel_rfl) K1111

theorem status_Drop_con {l_1058 : List (List UInt8 × List UInt8 × Int × List (List (List UInt8 × List UInt8 × List UInt8)) × List (List UInt8 × List UInt8 × List UInt8) × List (List UInt8) × List (List UInt8 × List UInt8) × List (List UInt8) × List (List UInt8))} {name_1059 : List UInt8} {r : List (List UInt8 × List UInt8 × Int × List (List (List UInt8 × List UInt8 × List UInt8)) × List (List UInt8 × List UInt8 × List UInt8) × List (List UInt8) × List (List UInt8 × List UInt8) × List (List UInt8) × List (List UInt8))} (h : status_Drop l_1058 name_1059 = some r) : Con Go.Proofs.Tryd.prog 26 [AV.list (Ty.prod Ty.str (Ty.prod Ty.str (Ty.prod (Ty.int IntKind.i64) (Ty.prod (Ty.list (Ty.list (Ty.prod Ty.str (Ty.prod Ty.str Ty.str)))) (Ty.prod (Ty.list (Ty.prod Ty.str (Ty.prod Ty.str Ty.str))) (Ty.prod (Ty.list Ty.str) (Ty.prod (Ty.list (Ty.prod Ty.str Ty.str)) (Ty.prod (Ty.list Ty.str) (Ty.list Ty.str))))))))) l_1058 Bool.false, AV.str name_1059] [] (status_Drop_res r) (status_Drop_out r) := by
  refine W.con (by kernel_rfl) ?_
  unfold status_Drop at h
  refine W.bind h fun a_1066 ha_1066 h => ?_
  refine W.call 0 100000 (by kernel_rfl) (api_Record__35_con ha_1066) (by kernel_rfl) ?_
  refine W.bind h fun a_1116 ha_1116 h => ?_
  refine W.call 0 100000 (by kernel_rfl) (api_Record__34_con ha_1116) (by kernel_rfl) ?_
  exact W.retT 0 100000 h (by kernel_rfl)

theorem cellarerref08_Drop_con {l_1121 : List (List UInt8 × List UInt8 × Int × List (List (List UInt8 × List UInt8 × List UInt8)) × List (List UInt8 × List UInt8 × List UInt8) × List (List UInt8) × List (List UInt8 × List UInt8) × List (List UInt8) × List (List UInt8))} {name_1122 : List UInt8} {r : List (List UInt8 × List UInt8 × Int × List (List (List UInt8 × List UInt8 × List UInt8)) × List (List UInt8 × List UInt8 × List UInt8) × List (List UInt8) × List (List UInt8 × List UInt8) × List (List UInt8) × List (List UInt8))} (h : cellarerref08_Drop l_1121 name_1122 = some r) : Con Go.Proofs.Tryd.prog 27 [AV.list (Ty.prod Ty.str (Ty.prod Ty.str (Ty.prod (Ty.int IntKind.i64) (Ty.prod (Ty.list (Ty.list (Ty.prod Ty.str (Ty.prod Ty.str Ty.str)))) (Ty.prod (Ty.list (Ty.prod Ty.str (Ty.prod Ty.str Ty.str))) (Ty.prod (Ty.list Ty.str) (Ty.prod (Ty.list (Ty.prod Ty.str Ty.str)) (Ty.prod (Ty.list Ty.str) (Ty.list Ty.str))))))))) l_1121 Bool.false, AV.str name_1122] [] (cellarerref08_Drop_res r) (cellarerref08_Drop_out r) := by
  refine W.con (by kernel_rfl) ?_
  unfold cellarerref08_Drop at h
  refine W.at 0 100000 [Co.own 5 (Ty.prod Ty.str (Ty.prod Ty.str (Ty.prod (Ty.int IntKind.i64) (Ty.prod (Ty.list (Ty.list (Ty.prod Ty.str (Ty.prod Ty.str Ty.str)))) (Ty.prod (Ty.list (Ty.prod Ty.str (Ty.prod Ty.str Ty.str))) (Ty.prod (Ty.list Ty.str) (Ty.prod (Ty.list (Ty.prod Ty.str Ty.str)) (Ty.prod (Ty.list Ty.str) (Ty.list Ty.str)))))))))] [0, 1, 5, 6] (c' := (fun (s_1136 : Int × List (List UInt8 × List UInt8 × Int × List (List (List UInt8 × List UInt8 × List UInt8)) × List (List UInt8 × List UInt8 × List UInt8) × List (List UInt8) × List (List UInt8 × List UInt8) × List (List UInt8) × List (List UInt8))) => (Cfg.mk Mode.run (headTodo Go.Proofs.Tryd.prog 27 0) (St.mk [AV.list (Ty.prod Ty.str (Ty.prod Ty.str (Ty.prod (Ty.int IntKind.i64) (Ty.prod (Ty.list (Ty.list (Ty.prod Ty.str (Ty.prod Ty.str Ty.str)))) (Ty.prod (Ty.list (Ty.prod Ty.str (Ty.prod Ty.str Ty.str))) (Ty.prod (Ty.list Ty.str) (Ty.prod (Ty.list (Ty.prod Ty.str Ty.str)) (Ty.prod (Ty.list Ty.str) (Ty.list Ty.str))))))))) l_1121 Bool.false, AV.str name_1122, jj, jj, jj, AV.view (0 : Nat) (0 : Nat) Option.none, AV.int IntKind.i64 (Prod.fst s_1136), jj, jj, jj, jj, jj, jj, jj, jj, jj, jj, jj, jj, jj, jj, jj, jj, jj, jj, jj, jj, jj] [AO.row (Ty.prod Ty.str (Ty.prod Ty.str (Ty.prod (Ty.int IntKind.i64) (Ty.prod (Ty.list (Ty.list (Ty.prod Ty.str (Ty.prod Ty.str Ty.str)))) (Ty.prod (Ty.list (Ty.prod Ty.str (Ty.prod Ty.str Ty.str))) (Ty.prod (Ty.list Ty.str) (Ty.prod (Ty.list (Ty.prod Ty.str Ty.str)) (Ty.prod (Ty.list Ty.str) (Ty.list Ty.str))))))))) (Prod.snd s_1136)] (0 : Nat)))) ((0 : Int), [])) (by kernel_rfl) ?_
  refine W.loop (fun (s_1136 : Int × List (List UInt8 × List UInt8 × Int × List (List (List UInt8 × List UInt8 × List UInt8)) × List (List UInt8 × List UInt8 × List UInt8) × List (List UInt8) × List (List UInt8 × List UInt8) × List (List UInt8) × List (List UInt8))) => (Cfg.mk Mode.run (headTodo Go.Proofs.Tryd.prog 27 0) (St.mk [AV.list (Ty.prod Ty.str (Ty.prod Ty.str (Ty.prod (Ty.int IntKind.i64) (Ty.prod (Ty.list (Ty.list (Ty.prod Ty.str (Ty.prod Ty.str Ty.str)))) (Ty.prod (Ty.list (Ty.prod Ty.str (Ty.prod Ty.str Ty.str))) (Ty.prod (Ty.list Ty.str) (Ty.prod (Ty.list (Ty.prod Ty.str Ty.str)) (Ty.prod (Ty.list Ty.str) (Ty.list Ty.str))))))))) l_1121 Bool.false, AV.str name_1122, jj, jj, jj, AV.view (0 : Nat) (0 : Nat) Option.none, AV.int IntKind.i64 (Prod.fst s_1136), jj, jj, jj, jj, jj, jj, jj, jj, jj, jj, jj, jj, jj, jj, jj, jj, jj, jj, jj, jj, jj] [AO.row (Ty.prod Ty.str (Ty.prod Ty.str (Ty.prod (Ty.int IntKind.i64) (Ty.prod (Ty.list (Ty.list (Ty.prod Ty.str (Ty.prod Ty.str Ty.str)))) (Ty.prod (Ty.list (Ty.prod Ty.str (Ty.prod Ty.str Ty.str))) (Ty.prod (Ty.list Ty.str) (Ty.prod (Ty.list (Ty.prod Ty.str Ty.str)) (Ty.prod (Ty.list Ty.str) (Ty.list Ty.str))))))))) (Prod.snd s_1136)] (0 : Nat)))) (fun t_1131 => Walk Go.Proofs.Tryd.prog 27 (Cfg.mk Mode.run ((headTodo Go.Proofs.Tryd.prog 27 0).drop 3) (St.mk [jj, jj, jj, jj, jj, AV.view (0 : Nat) (0 : Nat) Option.none, jj, jj, jj, jj, jj, jj, jj, jj, jj, jj, jj, jj, jj, jj, jj, jj, jj, jj, jj, jj, jj, jj] [AO.row (Ty.prod Ty.str (Ty.prod Ty.str (Ty.prod (Ty.int IntKind.i64) (Ty.prod (Ty.list (Ty.list (Ty.prod Ty.str (Ty.prod Ty.str Ty.str)))) (Ty.prod (Ty.list (Ty.prod Ty.str (Ty.prod Ty.str Ty.str))) (Ty.prod (Ty.list Ty.str) (Ty.prod (Ty.list (Ty.prod Ty.str Ty.str)) (Ty.prod (Ty.list Ty.str) (Ty.list Ty.str))))))))) t_1131] (0 : Nat))) (cellarerref08_Drop_res r) (cellarerref08_Drop_out r)) h (fun t_1131 h => ?_) (fun s_1136 x1133 h1133 K1133 => ?_)
  ·
    exact W.retT 0 100000 h (by kernel_rfl)
  · unfold cellarerref08_Drop_b0 at h1133
    refine W.cond 2 100000 h1133 (by kernel_rfl) (fun h1133 => ?_) (fun h1133 => ?_)
    ·
      refine W.needT 2 100000 h1133 (by kernel_rfl) (fun h1133 => ?_)
      refine W.cond 2 100000 h1133 (by kernel_rfl) (fun h1133 => ?_) (fun h1133 => ?_)
      ·
        refine W.needT 2 100000 h1133 (by kernel_rfl) (fun h1133 => ?_)
        refine W.needT 2 100000 h1133 (by kernel_rfl) (fun h1133 => ?_)
        cases h1133; exact W.at 2 100000 [Co.own 5 (Ty.prod Ty.str (Ty.prod Ty.str (Ty.prod (Ty.int IntKind.i64) (Ty.prod (Ty.list (Ty.list (Ty.prod Ty.str (Ty.prod Ty.str Ty.str)))) (Ty.prod (Ty.list (Ty.prod Ty.str (Ty.prod Ty.str Ty.str))) (Ty.prod (Ty.list Ty.str) (Ty.prod (Ty.list (Ty.prod Ty.str Ty.str)) (Ty.prod (Ty.list Ty.str) (Ty.list Ty.str)))))))))] [0, 1, 5, 6] (by kernel_rfl) K1133
      ·
        cases h1133; exact W.at 2 100000 [Co.own 5 (Ty.prod Ty.str (Ty.prod Ty.str (Ty.prod (Ty.int IntKind.i64) (Ty.prod (Ty.list (Ty.list (Ty.prod Ty.str (Ty.prod Ty.str Ty.str)))) (Ty.prod (Ty.list (Ty.prod Ty.str (Ty.prod Ty.str Ty.str))) (Ty.prod (Ty.list Ty.str) (Ty.prod (Ty.list (Ty.prod Ty.str Ty.str)) (Ty.prod (Ty.list Ty.str) (Ty.list Ty.str)))))))))] [0, 1, 5, 6] (by kernel_rfl) K1133
    ·
      cases h1133; exact W.at 2 100000 [] [5] (by kernel_rfl) K1133

theorem check_against_1_con {r_1154 : List UInt8} {r_1155 : List UInt8} {r_1156 : List UInt8} {o0_1157 : List UInt8} {o1_1158 : List UInt8} {r : Bool × List UInt8 × List UInt8} (h : check_against_1 r_1154 r_1155 r_1156 o0_1157 o1_1158 = some r) : Con Go.Proofs.Tryd.prog 38 [AV.agg [AV.str r_1154, AV.str r_1155, AV.str r_1156], AV.ptr (0 : Nat) (0 : Nat), AV.ptr (1 : Nat) (0 : Nat)] [AO.box [AV.str o0_1157], AO.box [AV.str o1_1158]] (check_against_1_res r) (check_against_1_out r) := by
  refine W.con (by kernel_rfl) ?_
  unfold check_against_1 at h
  refine W.bind h fun a_1159 ha_1159 h => ?_
  refine W.call 0 100000 (by kernel_rfl) (relation_Fits_con ha_1159) (by kernel_rfl) ?_
  exact W.retT 0 100000 h (by kernel_rfl)

theorem api_Rel__45_con {s_1146 : List (List UInt8 × List UInt8 × List UInt8)} {o0_1147 : List UInt8} {o1_1148 : List UInt8} {r : Int × List UInt8 × List UInt8} (h : api_Rel__45 s_1146 o0_1147 o1_1148 = some r) : Con Go.Proofs.Tryd.prog 45 [AV.list (Ty.prod Ty.str (Ty.prod Ty.str Ty.str)) s_1146 Bool.false, AV.func (Go.Fn.func (38 : Nat)) [] [AV.ptr (0 : Nat) (0 : Nat), AV.ptr (1 : Nat) (0 : Nat)]] [AO.box [AV.str o0_1147], AO.box [AV.str o1_1148]] (api_Rel__45_res r) (api_Rel__45_out r) := by
  refine W.con (by kernel_rfl) ?_
  unfold api_Rel__45 at h
  refine W.at 0 100000 [] [0, 1, 7, 8] (c' := (fun (s_1178 : Int × List UInt8 × List UInt8) => (Cfg.mk Mode.run (headTodo Go.Proofs.Tryd.prog 45 0) (St.mk [AV.list (Ty.prod Ty.str (Ty.prod Ty.str Ty.str)) s_1146 Bool.false, AV.func (Go.Fn.func (38 : Nat)) [] [AV.ptr (0 : Nat) (0 : Nat), AV.ptr (1 : Nat) (0 : Nat)], jj, jj, jj, jj, jj, AV.int IntKind.i64 (↑(List.length s_1146) : Int), AV.int IntKind.i64 (Prod.fst s_1178), jj, jj, jj, jj, jj, jj, jj, jj, jj, jj] [AO.box [AV.str (Prod.fst (Prod.snd s_1178))], AO.box [AV.str (Prod.snd (Prod.snd s_1178))]] (2 : Nat)))) ((0 : Int), o0_1147, o1_1148)) (by kernel_rfl) ?_
  refine W.loop (fun (s_1178 : Int × List UInt8 × List UInt8) => (Cfg.mk Mode.run (headTodo Go.Proofs.Tryd.prog 45 0) (St.mk [AV.list (Ty.prod Ty.str (Ty.prod Ty.str Ty.str)) s_1146 Bool.false, AV.func (Go.Fn.func (38 : Nat)) [] [AV.ptr (0 : Nat) (0 : Nat), AV.ptr (1 : Nat) (0 : Nat)], jj, jj, jj, jj, jj, AV.int IntKind.i64 (↑(List.length s_1146) : Int), AV.int IntKind.i64 (Prod.fst s_1178), jj, jj, jj, jj, jj, jj, jj, jj, jj, jj] [AO.box [AV.str (Prod.fst (Prod.snd s_1178))], AO.box [AV.str (Prod.snd (Prod.snd s_1178))]] (2 : Nat)))) (fun t => (Sum.elim (fun t_1168 => r = (Prod.fst t_1168, Prod.fst (Prod.snd t_1168), Prod.snd (Prod.snd t_1168))) (fun t_1171 => Walk Go.Proofs.Tryd.prog 45 (Cfg.mk Mode.run ((headTodo Go.Proofs.Tryd.prog 45 0).drop 3) (St.mk [jj, jj, jj, jj, jj, jj, jj, jj, jj, jj, jj, jj, jj, jj, jj, jj, jj, jj, jj] [AO.box [AV.str (Prod.fst t_1171)], AO.box [AV.str (Prod.snd t_1171)]] (2 : Nat))) (api_Rel__45_res r) (api_Rel__45_out r))) t) h (fun t h => ?_) (fun s_1178 x1173 h1173 K1173 => ?_)
  ·
    rcases t with t_1168 | t_1171
    · replace h := W.inl (h)
      refine W.elimL (?_)
      exact (Option.some.inj h).symm
    · replace h := W.inr (h)
      refine W.elimR (?_)
      exact W.retT 0 100000 h (by kernel_rfl)
  · unfold api_Rel__45_b0 at h1173
    refine W.cond 2 100000 h1173 (by kernel_rfl) (fun h1173 => ?_) (fun h1173 => ?_)
    ·
      refine W.needT 2 100000 h1173 (by kernel_rfl) (fun h1173 => ?_)
      refine W.bind h1173 fun a_1164 ha_1164 h1173 => ?_
      refine W.call 2 100000 (by kernel_rfl) (check_against_1_con ha_1164) (by kernel_rfl) ?_
      refine W.cond 2 100000 h1173 (by kernel_rfl) (fun h1173 => ?_) (fun h1173 => ?_)
      ·
        cases h1173; exact W.retK 2 100000 K1173 (by kernel_rfl)
      ·
        cases h1173; exact W.at 2 100000 [] [0, 1, 7, 8] (by kernel_rfl) K1173
    ·
      cases h1173; exact W.at 2 100000 [] [] (by kernel_rfl) K1173

theorem api_Rel__con {s_1143 : List (List UInt8 × List UInt8 × List UInt8)} {o0_1144 : List UInt8} {o1_1145 : List UInt8} {r : Bool × List UInt8 × List UInt8} (h : api_Rel_ s_1143 o0_1144 o1_1145 = some r) : Con Go.Proofs.Tryd.prog 37 [AV.list (Ty.prod Ty.str (Ty.prod Ty.str Ty.str)) s_1143 Bool.false, AV.func (Go.Fn.func (38 : Nat)) [] [AV.ptr (0 : Nat) (0 : Nat), AV.ptr (1 : Nat) (0 : Nat)]] [AO.box [AV.str o0_1144], AO.box [AV.str o1_1145]] (api_Rel__res r) (api_Rel__out r) := by
  refine W.con (by kernel_rfl) ?_
  unfold api_Rel_ at h
  refine W.bind h fun a_1179 ha_1179 h => ?_
  refine W.call 0 100000 (by kernel_rfl) (api_Rel__45_con ha_1179) (by kernel_rfl) ?_
  exact W.retT 0 100000 h (by kernel_rfl)

theorem check_against_con {l_1140 : List (List UInt8 × List UInt8 × List UInt8)} {name_1141 : List UInt8} {v_1142 : List UInt8} {r : Bool} (h : check_against l_1140 name_1141 v_1142 = some r) : Con Go.Proofs.Tryd.prog 28 [AV.list (Ty.prod Ty.str (Ty.prod Ty.str Ty.str)) l_1140 Bool.false, AV.str name_1141, AV.str v_1142] [] (check_against_res r) (check_against_out r) := by
  refine W.con (by kernel_rfl) ?_
  unfold check_against at h
  refine W.bind h fun a_1184 ha_1184 h => ?_
  refine W.call 0 100000 (by kernel_rfl) (api_Rel__con ha_1184) (by kernel_rfl) ?_
  exact W.retT 0 100000 h (by kernel_rfl)

theorem cellarerref20_against_con {l_1190 : List (List UInt8 × List UInt8 × List UInt8)} {name_1191 : List UInt8} {v_1192 : List UInt8} {r : Bool} (h : cellarerref20_against l_1190 name_1191 v_1192 = some r) : Con Go.Proofs.Tryd.prog 29 [AV.list (Ty.prod Ty.str (Ty.prod Ty.str Ty.str)) l_1190 Bool.false, AV.str name_1191, AV.str v_1192] [] (cellarerref20_against_res r) (cellarerref20_against_out r) := by
  refine W.con (by kernel_rfl) ?_
  unfold cellarerref20_against at h
  refine W.at 0 100000 [] [0, 1, 2, 7] (c' := (fun (s_1204 : Int) => (Cfg.mk Mode.run (headTodo Go.Proofs.Tryd.prog 29 0) (St.mk [AV.list (Ty.prod Ty.str (Ty.prod Ty.str Ty.str)) l_1190 Bool.false, AV.str name_1191, AV.str v_1192, jj, jj, jj, jj, AV.int IntKind.i64 s_1204, jj, jj, jj, jj, jj, jj, jj, jj, jj, jj, jj, jj, jj] [] (0 : Nat)))) ((0 : Int))) (by kernel_rfl) ?_
  refine W.loop (fun (s_1204 : Int) => (Cfg.mk Mode.run (headTodo Go.Proofs.Tryd.prog 29 0) (St.mk [AV.list (Ty.prod Ty.str (Ty.prod Ty.str Ty.str)) l_1190 Bool.false, AV.str name_1191, AV.str v_1192, jj, jj, jj, jj, AV.int IntKind.i64 s_1204, jj, jj, jj, jj, jj, jj, jj, jj, jj, jj, jj, jj, jj] [] (0 : Nat)))) (fun t => (Sum.elim (fun t_1198 => r = (Bool.true)) (fun t_1199 => Walk Go.Proofs.Tryd.prog 29 (Cfg.mk Mode.run ((headTodo Go.Proofs.Tryd.prog 29 0).drop 3) (St.mk [jj, jj, jj, jj, jj, jj, jj, jj, jj, jj, jj, jj, jj, jj, jj, jj, jj, jj, jj, jj, jj] [] (0 : Nat))) (cellarerref20_against_res r) (cellarerref20_against_out r))) t) h (fun t h => ?_) (fun s_1204 x1201 h1201 K1201 => ?_)
  ·
    rcases t with t_1198 | t_1199
    · replace h := W.inl (h)
      refine W.elimL (?_)
      exact (Option.some.inj h).symm
    · replace h := W.inr (h)
      refine W.elimR (?_)
      exact W.retT 0 100000 h (by kernel_rfl)
  · unfold cellarerref20_against_b0 at h1201
    refine W.cond 2 100000 h1201 (by kernel_rfl) (fun h1201 => ?_) (fun h1201 => ?_)
    ·
      refine W.needT 2 100000 h1201 (by kernel_rfl) (fun h1201 => ?_)
      refine W.bind h1201 fun a_1197 ha_1197 h1201 => ?_
      refine W.call 2 100000 (by kernel_rfl) (cellarerref07_Fits_con ha_1197) (by kernel_rfl) ?_
      refine W.cond 2 100000 h1201 (by kernel_rfl) (fun h1201 => ?_) (fun h1201 => ?_)
      ·
        cases h1201; exact W.retK 2 100000 K1201 (by kernel_rfl)
      ·
        cases h1201; exact W.at 2 100000 [] [0, 1, 2, 7] (by kernel_rfl) K1201
    ·
      cases h1201; exact W.at 2 100000 [] [] (by kernel_rfl) K1201

end Go.Cellar
