/- What the program's functions come to: printed by a program, checked by Lean. No condition. -/
import Derived.Test.YtjdjmbogopadaaaGreatDoorFun12p
import Derived.Test.YtjdjmbogopadaaaGreatDoorCon12b
import Derived.Test.YtjdjmbogopadaaaGreatDoorAbs31
set_option maxRecDepth 4000
set_option synthInstance.maxHeartbeats 2000000
set_option synthInstance.maxSize 100000
set_option linter.unusedVariables false
namespace Go.Cellar
open Go

theorem cellarerlaw12_FewFired_con {l_1 : List (List UInt8 × List (List UInt8))} {r : Bool} (h : cellarerlaw12_FewFired l_1 = some r) : Con Go.Proofs.Tryz.prog 15 [AV.list (Ty.prod Ty.str (Ty.list Ty.str)) l_1 Bool.false] [] (cellarerlaw12_FewFired_res r) (cellarerlaw12_FewFired_out r) := by
  refine W.con (by kernel_rfl) ?_
  unfold cellarerlaw12_FewFired at h
  refine W.cond 0 100000 h (by kernel_rfl) (fun h => ?_) (fun h => ?_)
  ·
    exact W.retT 0 100000 h (by kernel_rfl)
  ·
    refine W.at 0 100000 [] [0, 3, 4] (c' := (fun (s_23 : Int × Int) => (Cfg.mk Mode.run (headTodo Go.Proofs.Tryz.prog 15 0) (St.mk [AV.list (Ty.prod Ty.str (Ty.list Ty.str)) l_1 Bool.false, jj, jj, AV.int IntKind.i64 (Prod.fst s_23), AV.int IntKind.i64 (Prod.snd s_23), jj, jj, jj, jj, jj, jj, jj, jj, jj, jj, jj, jj, jj, jj, jj, jj, jj, jj, jj, jj, jj, jj, jj, jj, jj, jj, jj, jj, jj, jj, jj, jj, jj, jj, jj, jj, jj, jj, jj, jj, jj, jj, jj, jj, jj, jj, jj, jj, jj, jj, jj] [] (0 : Nat)))) ((0 : Int), (0 : Int))) (by kernel_rfl) ?_
    refine W.loop (fun (s_23 : Int × Int) => (Cfg.mk Mode.run (headTodo Go.Proofs.Tryz.prog 15 0) (St.mk [AV.list (Ty.prod Ty.str (Ty.list Ty.str)) l_1 Bool.false, jj, jj, AV.int IntKind.i64 (Prod.fst s_23), AV.int IntKind.i64 (Prod.snd s_23), jj, jj, jj, jj, jj, jj, jj, jj, jj, jj, jj, jj, jj, jj, jj, jj, jj, jj, jj, jj, jj, jj, jj, jj, jj, jj, jj, jj, jj, jj, jj, jj, jj, jj, jj, jj, jj, jj, jj, jj, jj, jj, jj, jj, jj, jj, jj, jj, jj, jj, jj] [] (0 : Nat)))) (fun t => (Sum.elim (fun t_16 => r = (Bool.false)) (fun t_17 => Walk Go.Proofs.Tryz.prog 15 (Cfg.mk Mode.run ((headTodo Go.Proofs.Tryz.prog 15 0).drop 3) (St.mk [jj, jj, jj, jj, jj, jj, jj, jj, jj, jj, jj, jj, jj, jj, jj, jj, jj, jj, jj, jj, jj, jj, jj, jj, jj, jj, jj, jj, jj, jj, jj, jj, jj, jj, jj, jj, jj, jj, jj, jj, jj, jj, jj, jj, jj, jj, jj, jj, jj, jj, jj, jj, jj, jj, jj, jj] [] (0 : Nat))) (cellarerlaw12_FewFired_res r) (cellarerlaw12_FewFired_out r))) t) h (fun t h => ?_) (fun s_23 x19 h19 K19 => ?_)
    ·
      rcases t with t_16 | t_17
      · replace h := W.inl (h)
        refine W.elimL (?_)
        exact (Option.some.inj h).symm
      · replace h := W.inr (h)
        refine W.elimR (?_)
        exact W.retT 0 100000 h (by kernel_rfl)
    · unfold cellarerlaw12_FewFired_b1 at h19
      refine W.cond 2 100000 h19 (by kernel_rfl) (fun h19 => ?_) (fun h19 => ?_)
      ·
        refine W.join (fun t => (Sum.elim (fun t_5 => r = (Bool.false)) (fun t_6 => Walk Go.Proofs.Tryz.prog 15 (Cfg.mk Mode.run (seqTodo Go.Proofs.Tryz.prog 15 10) (St.mk [AV.list (Ty.prod Ty.str (Ty.list Ty.str)) l_1 Bool.false, jj, jj, AV.int IntKind.i64 (Prod.fst s_23), AV.int IntKind.i64 (Prod.snd s_23), jj, jj, jj, jj, jj, jj, jj, jj, jj, jj, jj, jj, jj, jj, jj, jj, jj, jj, jj, jj, jj, jj, jj, jj, jj, jj, jj, jj, jj, jj, jj, jj, jj, jj, jj, jj, jj, jj, jj, jj, jj, jj, jj, jj, jj, jj, jj, jj, jj, jj, jj] [] (0 : Nat))) (cellarerlaw12_FewFired_res r) (cellarerlaw12_FewFired_out r))) t) h19 (fun t h19 => ?_) (fun t16 h16 K16 => ?_)
        ·
          rcases t with t_5 | t_6
          · replace h19 := W.inl (h19)
            refine W.elimL (?_)
            cases h19; exact K19
          · replace h19 := W.inr (h19)
            refine W.elimR (?_)
            refine W.at 2 100000 [] [0, 3, 4, 5] (c' := (fun (s_24 : Int × Int) => (Cfg.mk Mode.run (headTodo Go.Proofs.Tryz.prog 15 1) (St.mk [AV.list (Ty.prod Ty.str (Ty.list Ty.str)) l_1 Bool.false, jj, jj, AV.int IntKind.i64 (Prod.fst s_24), AV.int IntKind.i64 (Prod.snd s_23), AV.int IntKind.i64 (Prod.snd s_24), jj, jj, jj, jj, jj, jj, jj, jj, jj, jj, jj, jj, jj, jj, jj, jj, jj, jj, jj, jj, jj, jj, jj, jj, jj, jj, jj, jj, jj, jj, jj, jj, jj, jj, jj, jj, jj, jj, jj, jj, jj, jj, jj, jj, jj, jj, jj, jj, jj, jj] [] (0 : Nat)))) (Prod.fst s_23, (0 : Int))) (by kernel_rfl) ?_
            refine W.loop (fun (s_24 : Int × Int) => (Cfg.mk Mode.run (headTodo Go.Proofs.Tryz.prog 15 1) (St.mk [AV.list (Ty.prod Ty.str (Ty.list Ty.str)) l_1 Bool.false, jj, jj, AV.int IntKind.i64 (Prod.fst s_24), AV.int IntKind.i64 (Prod.snd s_23), AV.int IntKind.i64 (Prod.snd s_24), jj, jj, jj, jj, jj, jj, jj, jj, jj, jj, jj, jj, jj, jj, jj, jj, jj, jj, jj, jj, jj, jj, jj, jj, jj, jj, jj, jj, jj, jj, jj, jj, jj, jj, jj, jj, jj, jj, jj, jj, jj, jj, jj, jj, jj, jj, jj, jj, jj, jj] [] (0 : Nat)))) (fun t => (Sum.elim (fun t_11 => r = (Bool.false)) (fun t_13 => Walk Go.Proofs.Tryz.prog 15 (Cfg.mk Mode.run ((headTodo Go.Proofs.Tryz.prog 15 1).drop 3) (St.mk [AV.list (Ty.prod Ty.str (Ty.list Ty.str)) l_1 Bool.false, jj, jj, AV.int IntKind.i64 t_13, AV.int IntKind.i64 (Prod.snd s_23), jj, jj, jj, jj, jj, jj, jj, jj, jj, jj, jj, jj, jj, jj, jj, jj, jj, jj, jj, jj, jj, jj, jj, jj, jj, jj, jj, jj, jj, jj, jj, jj, jj, jj, jj, jj, jj, jj, jj, jj, jj, jj, jj, jj, jj, jj, jj, jj, jj, jj, jj] [] (0 : Nat))) (cellarerlaw12_FewFired_res r) (cellarerlaw12_FewFired_out r))) t) h19 (fun t h19 => ?_) (fun s_24 x15 h15 K15 => ?_)
            ·
              rcases t with t_11 | t_13
              · replace h19 := W.inl (h19)
                refine W.elimL (?_)
                cases h19; exact K19
              · replace h19 := W.inr (h19)
                refine W.elimR (?_)
                cases h19; exact W.at 2 100000 [] [0, 3, 4] (by kernel_rfl) K19
            · unfold cellarerlaw12_FewFired_b0 at h15
              refine W.needT 6 100000 h15 (by kernel_rfl) (fun h15 => ?_)
              refine W.cond 6 100000 h15 (by kernel_rfl) (fun h15 => ?_) (fun h15 => ?_)
              ·
                refine W.needT 6 100000 h15 (by kernel_rfl) (fun h15 => ?_)
                refine W.needT 6 100000 h15 (by kernel_rfl) (fun h15 => ?_)
                refine W.cond 6 100000 h15 (by kernel_rfl) (fun h15 => ?_) (fun h15 => ?_)
                ·
                  cases h15; exact W.retK 6 100000 K15 (by kernel_rfl)
                ·
                  cases h15; exact W.at 6 100000 [] [0, 3, 4, 5] (by kernel_rfl) K15
              ·
                cases h15; exact W.at 6 100000 [] [0, 3, 4] (by kernel_rfl) K15
        · refine W.next 2 4 (by kernel_rfl) ?_
          refine W.needT 6 100000 h16 (by kernel_rfl) (fun h16 => ?_)
          refine W.cond 6 100000 h16 (by kernel_rfl) (fun h16 => ?_) (fun h16 => ?_)
          ·
            refine W.yes 6 100000 (by kernel_rfl) ?_
            refine W.yes 6 100000 (by kernel_rfl) ?_
            refine W.yes 6 100000 (by kernel_rfl) ?_
            refine W.yes 6 100000 (by kernel_rfl) ?_
            refine W.yes 6 100000 (by kernel_rfl) ?_
            refine W.yes 6 100000 (by kernel_rfl) ?_
            refine W.yes 6 100000 (by kernel_rfl) ?_
            refine W.yes 6 100000 (by kernel_rfl) ?_
            cases h16; exact W.retK 6 100000 K16 (by kernel_rfl)
          ·
            refine W.no 6 100000 (by kernel_rfl) ?_
            refine W.no 6 100000 (by kernel_rfl) ?_
            refine W.needT 6 100000 h16 (by kernel_rfl) (fun h16 => ?_)
            refine W.no 6 100000 (by kernel_rfl) ?_
            refine W.no 6 100000 (by kernel_rfl) ?_
            refine W.no 6 100000 (by kernel_rfl) ?_
            refine W.no 6 100000 (by kernel_rfl) ?_
            refine W.no 6 100000 (by kernel_rfl) ?_
            refine W.cond 6 100000 h16 (by kernel_rfl) (fun h16 => ?_) (fun h16 => ?_)
            ·
              cases h16; exact W.retK 6 100000 K16 (by kernel_rfl)
            ·
              cases h16; exact W.at 6 100000 [] [0, 3, 4] (by kernel_rfl) K16
      ·
        cases h19; exact W.at 2 100000 [] [] (by kernel_rfl) K19

theorem cellarerref08_Names_con {l_36 : List (List UInt8)} {r : Bool} (h : cellarerref08_Names l_36 = some r) : Con Go.Proofs.Tryz.prog 46 [AV.list Ty.str l_36 Bool.false] [] (cellarerref08_Names_res r) (cellarerref08_Names_out r) := by
  refine W.con (by kernel_rfl) ?_
  unfold cellarerref08_Names at h
  refine W.at 0 100000 [] [0, 3] (c' := (fun (s_46 : Int) => (Cfg.mk Mode.run (headTodo Go.Proofs.Tryz.prog 46 0) (St.mk [AV.list Ty.str l_36 Bool.false, jj, jj, AV.int IntKind.i64 s_46, jj, jj, jj, jj, jj, jj, jj, jj, jj, jj, jj, jj, jj, jj, jj] [] (0 : Nat)))) ((0 : Int))) (by kernel_rfl) ?_
  refine W.loop (fun (s_46 : Int) => (Cfg.mk Mode.run (headTodo Go.Proofs.Tryz.prog 46 0) (St.mk [AV.list Ty.str l_36 Bool.false, jj, jj, AV.int IntKind.i64 s_46, jj, jj, jj, jj, jj, jj, jj, jj, jj, jj, jj, jj, jj, jj, jj] [] (0 : Nat)))) (fun t => (Sum.elim (fun t_40 => r = (Bool.false)) (fun t_41 => Walk Go.Proofs.Tryz.prog 46 (Cfg.mk Mode.run ((headTodo Go.Proofs.Tryz.prog 46 0).drop 3) (St.mk [AV.list Ty.str l_36 Bool.false, jj, jj, jj, jj, jj, jj, jj, jj, jj, jj, jj, jj, jj, jj, jj, jj, jj, jj] [] (0 : Nat))) (cellarerref08_Names_res r) (cellarerref08_Names_out r))) t) h (fun t h => ?_) (fun s_46 x43 h43 K43 => ?_)
  ·
    rcases t with t_40 | t_41
    · replace h := W.inl (h)
      refine W.elimL (?_)
      exact (Option.some.inj h).symm
    · replace h := W.inr (h)
      refine W.elimR (?_)
      exact W.retT 0 100000 h (by kernel_rfl)
  · unfold cellarerref08_Names_b0 at h43
    refine W.cond 2 100000 h43 (by kernel_rfl) (fun h43 => ?_) (fun h43 => ?_)
    ·
      refine W.needT 2 100000 h43 (by kernel_rfl) (fun h43 => ?_)
      refine W.bind h43 fun a_39 ha_39 h43 => ?_
      refine W.call 2 100000 (by kernel_rfl) (cellarerref02_Name_con ha_39) (by kernel_rfl) ?_
      refine W.cond 2 100000 h43 (by kernel_rfl) (fun h43 => ?_) (fun h43 => ?_)
      ·
        cases h43; exact W.retK 2 100000 K43 (by kernel_rfl)
      ·
        cases h43; exact W.at 2 100000 [] [0, 3] (by kernel_rfl) K43
    ·
      cases h43; exact W.at 2 100000 [] [0] (by kernel_rfl) K43

theorem cellarerref08_Rising_con {l_48 : List (List UInt8)} {r : Bool} (h : cellarerref08_Rising l_48 = some r) : Con Go.Proofs.Tryz.prog 47 [AV.list Ty.str l_48 Bool.false] [] (cellarerref08_Rising_res r) (cellarerref08_Rising_out r) := by
  refine W.con (by kernel_rfl) ?_
  unfold cellarerref08_Rising at h
  refine W.at 0 100000 [] [0, 3] (c' := (fun (s_57 : Int) => (Cfg.mk Mode.run (headTodo Go.Proofs.Tryz.prog 47 0) (St.mk [AV.list Ty.str l_48 Bool.false, jj, jj, AV.int IntKind.i64 s_57, jj, jj, jj, jj, jj, jj, jj, jj, jj, jj, jj, jj, jj, jj, jj, jj, jj, jj, jj] [] (0 : Nat)))) ((1 : Int))) (by kernel_rfl) ?_
  refine W.loop (fun (s_57 : Int) => (Cfg.mk Mode.run (headTodo Go.Proofs.Tryz.prog 47 0) (St.mk [AV.list Ty.str l_48 Bool.false, jj, jj, AV.int IntKind.i64 s_57, jj, jj, jj, jj, jj, jj, jj, jj, jj, jj, jj, jj, jj, jj, jj, jj, jj, jj, jj] [] (0 : Nat)))) (fun t => (Sum.elim (fun t_51 => r = (Bool.false)) (fun t_52 => Walk Go.Proofs.Tryz.prog 47 (Cfg.mk Mode.run ((headTodo Go.Proofs.Tryz.prog 47 0).drop 3) (St.mk [AV.list Ty.str l_48 Bool.false, jj, jj, jj, jj, jj, jj, jj, jj, jj, jj, jj, jj, jj, jj, jj, jj, jj, jj, jj, jj, jj, jj] [] (0 : Nat))) (cellarerref08_Rising_res r) (cellarerref08_Rising_out r))) t) h (fun t h => ?_) (fun s_57 x54 h54 K54 => ?_)
  ·
    rcases t with t_51 | t_52
    · replace h := W.inl (h)
      refine W.elimL (?_)
      exact (Option.some.inj h).symm
    · replace h := W.inr (h)
      refine W.elimR (?_)
      exact W.retT 0 100000 h (by kernel_rfl)
  · unfold cellarerref08_Rising_b0 at h54
    refine W.cond 2 100000 h54 (by kernel_rfl) (fun h54 => ?_) (fun h54 => ?_)
    ·
      refine W.needT 2 100000 h54 (by kernel_rfl) (fun h54 => ?_)
      refine W.needT 2 100000 h54 (by kernel_rfl) (fun h54 => ?_)
      refine W.cond 2 100000 h54 (by kernel_rfl) (fun h54 => ?_) (fun h54 => ?_)
      ·
        cases h54; exact W.retK 2 100000 K54 (by kernel_rfl)
      ·
        cases h54; exact W.at 2 100000 [] [0, 3] (by kernel_rfl) K54
    ·
      cases h54; exact W.at 2 100000 [] [0] (by kernel_rfl) K54

theorem cellarerref12_CheckFired_con {l_28 : List (List UInt8 × List (List UInt8))} {r : Int} (h : cellarerref12_CheckFired l_28 = some r) : Con Go.Proofs.Tryz.prog 19 [AV.list (Ty.prod Ty.str (Ty.list Ty.str)) l_28 Bool.false] [] (cellarerref12_CheckFired_res r) (cellarerref12_CheckFired_out r) := by
  refine W.con (by kernel_rfl) ?_
  unfold cellarerref12_CheckFired at h
  refine W.at 0 100000 [] [0, 3] (c' := (fun (s_67 : Int) => (Cfg.mk Mode.run (headTodo Go.Proofs.Tryz.prog 19 0) (St.mk [AV.list (Ty.prod Ty.str (Ty.list Ty.str)) l_28 Bool.false, jj, jj, AV.int IntKind.i64 s_67, jj, jj, jj, jj, jj, jj, jj, jj, jj, jj, jj, jj, jj, jj, jj, jj, jj, jj, jj, jj, jj, jj, jj, jj, jj, jj, jj, jj, jj, jj, jj, jj, jj, jj, jj, jj, jj, jj, jj, jj, jj, jj, jj, jj, jj, jj, jj, jj, jj, jj, jj, jj, jj, jj, jj, jj, jj, jj, jj, jj, jj, jj, jj, jj, jj, jj] [] (0 : Nat)))) ((0 : Int))) (by kernel_rfl) ?_
  refine W.loop (fun (s_67 : Int) => (Cfg.mk Mode.run (headTodo Go.Proofs.Tryz.prog 19 0) (St.mk [AV.list (Ty.prod Ty.str (Ty.list Ty.str)) l_28 Bool.false, jj, jj, AV.int IntKind.i64 s_67, jj, jj, jj, jj, jj, jj, jj, jj, jj, jj, jj, jj, jj, jj, jj, jj, jj, jj, jj, jj, jj, jj, jj, jj, jj, jj, jj, jj, jj, jj, jj, jj, jj, jj, jj, jj, jj, jj, jj, jj, jj, jj, jj, jj, jj, jj, jj, jj, jj, jj, jj, jj, jj, jj, jj, jj, jj, jj, jj, jj, jj, jj, jj, jj, jj, jj] [] (0 : Nat)))) (fun t => (Sum.elim (fun t_31 => r = ((22 : Int))) (fun t_32 => Walk Go.Proofs.Tryz.prog 19 (Cfg.mk Mode.run ((headTodo Go.Proofs.Tryz.prog 19 0).drop 3) (St.mk [AV.list (Ty.prod Ty.str (Ty.list Ty.str)) l_28 Bool.false, jj, jj, jj, jj, jj, jj, jj, jj, jj, jj, jj, jj, jj, jj, jj, jj, jj, jj, jj, jj, jj, jj, jj, jj, jj, jj, jj, jj, jj, jj, jj, jj, jj, jj, jj, jj, jj, jj, jj, jj, jj, jj, jj, jj, jj, jj, jj, jj, jj, jj, jj, jj, jj, jj, jj, jj, jj, jj, jj, jj, jj, jj, jj, jj, jj, jj, jj, jj, jj] [] (0 : Nat))) (cellarerref12_CheckFired_res r) (cellarerref12_CheckFired_out r))) t) h (fun t h => ?_) (fun s_67 x63 h63 K63 => ?_)
  ·
    rcases t with t_31 | t_32
    · replace h := W.inl (h)
      refine W.elimL (?_)
      exact (Option.some.inj h).symm
    · replace h := W.inr (h)
      refine W.elimR (?_)
      refine W.cond 0 100000 h (by kernel_rfl) (fun h => ?_) (fun h => ?_)
      ·
        exact W.retT 0 100000 h (by kernel_rfl)
      ·
        refine W.at 0 100000 [] [0, 4] (c' := (fun (s_68 : Int) => (Cfg.mk Mode.run (headTodo Go.Proofs.Tryz.prog 19 1) (St.mk [AV.list (Ty.prod Ty.str (Ty.list Ty.str)) l_28 Bool.false, jj, jj, jj, AV.int IntKind.i64 s_68, jj, jj, jj, jj, jj, jj, jj, jj, jj, jj, jj, jj, jj, jj, jj, jj, jj, jj, jj, jj, jj, jj, jj, jj, jj, jj, jj, jj, jj, jj, jj, jj, jj, jj, jj, jj, jj, jj, jj, jj, jj, jj, jj, jj, jj, jj, jj, jj, jj, jj, jj, jj, jj, jj, jj, jj, jj, jj, jj, jj, jj, jj, jj, jj, jj] [] (0 : Nat)))) ((0 : Int))) (by kernel_rfl) ?_
        refine W.loop (fun (s_68 : Int) => (Cfg.mk Mode.run (headTodo Go.Proofs.Tryz.prog 19 1) (St.mk [AV.list (Ty.prod Ty.str (Ty.list Ty.str)) l_28 Bool.false, jj, jj, jj, AV.int IntKind.i64 s_68, jj, jj, jj, jj, jj, jj, jj, jj, jj, jj, jj, jj, jj, jj, jj, jj, jj, jj, jj, jj, jj, jj, jj, jj, jj, jj, jj, jj, jj, jj, jj, jj, jj, jj, jj, jj, jj, jj, jj, jj, jj, jj, jj, jj, jj, jj, jj, jj, jj, jj, jj, jj, jj, jj, jj, jj, jj, jj, jj, jj, jj, jj, jj, jj, jj] [] (0 : Nat)))) (fun t => (Sum.elim (fun t_59 => r = ((1 : Int))) (fun t_60 => Walk Go.Proofs.Tryz.prog 19 (Cfg.mk Mode.run ((headTodo Go.Proofs.Tryz.prog 19 1).drop 3) (St.mk [jj, jj, jj, jj, jj, jj, jj, jj, jj, jj, jj, jj, jj, jj, jj, jj, jj, jj, jj, jj, jj, jj, jj, jj, jj, jj, jj, jj, jj, jj, jj, jj, jj, jj, jj, jj, jj, jj, jj, jj, jj, jj, jj, jj, jj, jj, jj, jj, jj, jj, jj, jj, jj, jj, jj, jj, jj, jj, jj, jj, jj, jj, jj, jj, jj, jj, jj, jj, jj, jj] [] (0 : Nat))) (cellarerref12_CheckFired_res r) (cellarerref12_CheckFired_out r))) t) h (fun t h => ?_) (fun s_68 x62 h62 K62 => ?_)
        ·
          rcases t with t_59 | t_60
          · replace h := W.inl (h)
            refine W.elimL (?_)
            exact (Option.some.inj h).symm
          · replace h := W.inr (h)
            refine W.elimR (?_)
            exact W.retT 0 100000 h (by kernel_rfl)
        · unfold cellarerref12_CheckFired_b1 at h62
          refine W.cond 2 100000 h62 (by kernel_rfl) (fun h62 => ?_) (fun h62 => ?_)
          ·
            refine W.needT 2 100000 h62 (by kernel_rfl) (fun h62 => ?_)
            refine W.bind h62 fun a_35 ha_35 h62 => ?_
            refine W.call 2 100000 (by kernel_rfl) (cellarerref08_Trigger_con ha_35) (by kernel_rfl) ?_
            refine W.cond 2 100000 h62 (by kernel_rfl) (fun h62 => ?_) (fun h62 => ?_)
            ·
              refine W.yes 2 100000 (by kernel_rfl) ?_
              refine W.yes 2 100000 (by kernel_rfl) ?_
              refine W.yes 2 100000 (by kernel_rfl) ?_
              refine W.yes 2 100000 (by kernel_rfl) ?_
              refine W.yes 2 100000 (by kernel_rfl) ?_
              refine W.yes 2 100000 (by kernel_rfl) ?_
              refine W.yes 2 100000 (by kernel_rfl) ?_
              refine W.yes 2 100000 (by kernel_rfl) ?_
              refine W.yes 2 100000 (by kernel_rfl) ?_
              refine W.yes 2 100000 (by kernel_rfl) ?_
              refine W.yes 2 100000 (by kernel_rfl) ?_
              refine W.yes 2 100000 (by kernel_rfl) ?_
              refine W.yes 2 100000 (by kernel_rfl) ?_
              refine W.yes 2 100000 (by kernel_rfl) ?_
              refine W.yes 2 100000 (by kernel_rfl) ?_
              refine W.yes 2 100000 (by kernel_rfl) ?_
              refine W.yes 2 100000 (by kernel_rfl) ?_
              refine W.yes 2 100000 (by kernel_rfl) ?_
              refine W.yes 2 100000 (by kernel_rfl) ?_
              refine W.yes 2 100000 (by kernel_rfl) ?_
              refine W.yes 2 100000 (by kernel_rfl) ?_
              cases h62; exact W.retK 2 100000 K62 (by kernel_rfl)
            ·
              refine W.no 2 100000 (by kernel_rfl) ?_
              refine W.no 2 100000 (by kernel_rfl) ?_
              refine W.needT 2 100000 h62 (by kernel_rfl) (fun h62 => ?_)
              refine W.no 2 100000 (by kernel_rfl) ?_
              refine W.no 2 100000 (by kernel_rfl) ?_
              refine W.no 2 100000 (by kernel_rfl) ?_
              refine W.bind h62 fun a_47 ha_47 h62 => ?_
              refine W.call 2 100000 (by kernel_rfl) (cellarerref08_Names_con ha_47) (by kernel_rfl) ?_
              refine W.no 2 100000 (by kernel_rfl) ?_
              refine W.no 2 100000 (by kernel_rfl) ?_
              refine W.cond 2 100000 h62 (by kernel_rfl) (fun h62 => ?_) (fun h62 => ?_)
              ·
                refine W.yes 2 100000 (by kernel_rfl) ?_
                refine W.yes 2 100000 (by kernel_rfl) ?_
                refine W.yes 2 100000 (by kernel_rfl) ?_
                refine W.yes 2 100000 (by kernel_rfl) ?_
                refine W.yes 2 100000 (by kernel_rfl) ?_
                refine W.yes 2 100000 (by kernel_rfl) ?_
                refine W.yes 2 100000 (by kernel_rfl) ?_
                refine W.yes 2 100000 (by kernel_rfl) ?_
                refine W.yes 2 100000 (by kernel_rfl) ?_
                refine W.yes 2 100000 (by kernel_rfl) ?_
                refine W.yes 2 100000 (by kernel_rfl) ?_
                refine W.yes 2 100000 (by kernel_rfl) ?_
                refine W.yes 2 100000 (by kernel_rfl) ?_
                cases h62; exact W.retK 2 100000 K62 (by kernel_rfl)
              ·
                refine W.no 2 100000 (by kernel_rfl) ?_
                refine W.no 2 100000 (by kernel_rfl) ?_
                refine W.needT 2 100000 h62 (by kernel_rfl) (fun h62 => ?_)
                refine W.no 2 100000 (by kernel_rfl) ?_
                refine W.no 2 100000 (by kernel_rfl) ?_
                refine W.no 2 100000 (by kernel_rfl) ?_
                refine W.bind h62 fun a_58 ha_58 h62 => ?_
                refine W.call 2 100000 (by kernel_rfl) (cellarerref08_Rising_con ha_58) (by kernel_rfl) ?_
                refine W.no 2 100000 (by kernel_rfl) ?_
                refine W.no 2 100000 (by kernel_rfl) ?_
                refine W.cond 2 100000 h62 (by kernel_rfl) (fun h62 => ?_) (fun h62 => ?_)
                ·
                  refine W.yes 2 100000 (by kernel_rfl) ?_
                  refine W.yes 2 100000 (by kernel_rfl) ?_
                  refine W.yes 2 100000 (by kernel_rfl) ?_
                  refine W.yes 2 100000 (by kernel_rfl) ?_
                  refine W.yes 2 100000 (by kernel_rfl) ?_
                  cases h62; exact W.retK 2 100000 K62 (by kernel_rfl)
                ·
                  refine W.no 2 100000 (by kernel_rfl) ?_
                  refine W.no 2 100000 (by kernel_rfl) ?_
                  refine W.cond 2 100000 h62 (by kernel_rfl) (fun h62 => ?_) (fun h62 => ?_)
                  ·
                    refine W.yes 2 100000 (by kernel_rfl) ?_
                    refine W.yes 2 100000 (by kernel_rfl) ?_
                    refine W.yes 2 100000 (by kernel_rfl) ?_
                    refine W.needT 2 100000 h62 (by kernel_rfl) (fun h62 => ?_)
                    refine W.yes 2 100000 (by kernel_rfl) ?_
                    refine W.yes 2 100000 (by kernel_rfl) ?_
                    refine W.yes 2 100000 (by kernel_rfl) ?_
                    refine W.yes 2 100000 (by kernel_rfl) ?_
                    refine W.yes 2 100000 (by kernel_rfl) ?_
                    refine W.needT 2 100000 h62 (by kernel_rfl) (fun h62 => ?_)
                    refine W.yes 2 100000 (by kernel_rfl) ?_
                    refine W.yes 2 100000 (by kernel_rfl) ?_
                    refine W.yes 2 100000 (by kernel_rfl) ?_
                    refine W.no 2 100000 (by kernel_rfl) ?_
                    refine W.yes 2 100000 (by kernel_rfl) ?_
                    refine W.no 2 100000 (by kernel_rfl) ?_
                    refine W.cond 2 100000 h62 (by kernel_rfl) (fun h62 => ?_) (fun h62 => ?_)
                    ·
                      cases h62; exact W.retK 2 100000 K62 (by kernel_rfl)
                    ·
                      cases h62; exact W.at 2 100000 [] [0, 4] (by kernel_rfl) K62
                  ·
                    refine W.no 2 100000 (by kernel_rfl) ?_
                    refine W.no 2 100000 (by kernel_rfl) ?_
                    refine W.no 2 100000 (by kernel_rfl) ?_
                    refine W.no 2 100000 (by kernel_rfl) ?_
                    refine W.no 2 100000 (by kernel_rfl) ?_
                    refine W.no 2 100000 (by kernel_rfl) ?_
                    refine W.no 2 100000 (by kernel_rfl) ?_
                    refine W.no 2 100000 (by kernel_rfl) ?_
                    refine W.no 2 100000 (by kernel_rfl) ?_
                    refine W.no 2 100000 (by kernel_rfl) ?_
                    refine W.no 2 100000 (by kernel_rfl) ?_
                    refine W.no 2 100000 (by kernel_rfl) ?_
                    refine W.no 2 100000 (by kernel_rfl) ?_
                    refine W.no 2 100000 (by kernel_rfl) ?_
                    refine W.no 2 100000 (by kernel_rfl) ?_
                    cases h62; exact W.at 2 100000 [] [0, 4] (by kernel_rfl) K62
          ·
            cases h62; exact W.at 2 100000 [] [] (by kernel_rfl) K62
  · unfold cellarerref12_CheckFired_b0 at h63
    refine W.cond 2 100000 h63 (by kernel_rfl) (fun h63 => ?_) (fun h63 => ?_)
    ·
      refine W.needT 2 100000 h63 (by kernel_rfl) (fun h63 => ?_)
      refine W.cond 2 100000 h63 (by kernel_rfl) (fun h63 => ?_) (fun h63 => ?_)
      ·
        cases h63; exact W.retK 2 100000 K63 (by kernel_rfl)
      ·
        cases h63; exact W.at 2 100000 [] [0, 3] (by kernel_rfl) K63
    ·
      cases h63; exact W.at 2 100000 [] [0] (by kernel_rfl) K63

theorem cellarerref12_PrintFired_con {l_70 : List (List UInt8 × List (List UInt8))} {r : List UInt8 × Int} (h : cellarerref12_PrintFired l_70 = some r) : Con Go.Proofs.Tryz.prog 17 [AV.list (Ty.prod Ty.str (Ty.list Ty.str)) l_70 Bool.false] [] (cellarerref12_PrintFired_res r) (cellarerref12_PrintFired_out r) := by
  refine W.con (by kernel_rfl) ?_
  unfold cellarerref12_PrintFired at h
  refine W.bind h fun a_71 ha_71 h => ?_
  refine W.call 0 100000 (by kernel_rfl) (cellarerref12_CheckFired_con ha_71) (by kernel_rfl) ?_
  refine W.cond 0 100000 h (by kernel_rfl) (fun h => ?_) (fun h => ?_)
  ·
    exact W.retT 0 100000 h (by kernel_rfl)
  ·
    refine W.at 0 100000 [] [0, 5, 6] (c' := (fun (s_90 : List UInt8 × Int) => (Cfg.mk Mode.run (headTodo Go.Proofs.Tryz.prog 17 0) (St.mk [AV.list (Ty.prod Ty.str (Ty.list Ty.str)) l_70 Bool.false, jj, jj, jj, jj, AV.str (Prod.fst s_90), AV.int IntKind.i64 (Prod.snd s_90), jj, jj, jj, jj, jj, jj, jj, jj, jj, jj, jj, jj, jj, jj, jj, jj, jj, jj, jj, jj, jj, jj, jj, jj, jj, jj, jj, jj, jj, jj, jj, jj, jj, jj, jj, jj, jj, jj, jj, jj, jj, jj, jj, jj, jj, jj, jj, jj, jj, jj, jj, jj] [] (0 : Nat)))) ([], (0 : Int))) (by kernel_rfl) ?_
    refine W.loop (fun (s_90 : List UInt8 × Int) => (Cfg.mk Mode.run (headTodo Go.Proofs.Tryz.prog 17 0) (St.mk [AV.list (Ty.prod Ty.str (Ty.list Ty.str)) l_70 Bool.false, jj, jj, jj, jj, AV.str (Prod.fst s_90), AV.int IntKind.i64 (Prod.snd s_90), jj, jj, jj, jj, jj, jj, jj, jj, jj, jj, jj, jj, jj, jj, jj, jj, jj, jj, jj, jj, jj, jj, jj, jj, jj, jj, jj, jj, jj, jj, jj, jj, jj, jj, jj, jj, jj, jj, jj, jj, jj, jj, jj, jj, jj, jj, jj, jj, jj, jj, jj, jj] [] (0 : Nat)))) (fun t_83 => Walk Go.Proofs.Tryz.prog 17 (Cfg.mk Mode.run ((headTodo Go.Proofs.Tryz.prog 17 0).drop 3) (St.mk [jj, jj, jj, jj, jj, AV.str t_83, jj, jj, jj, jj, jj, jj, jj, jj, jj, jj, jj, jj, jj, jj, jj, jj, jj, jj, jj, jj, jj, jj, jj, jj, jj, jj, jj, jj, jj, jj, jj, jj, jj, jj, jj, jj, jj, jj, jj, jj, jj, jj, jj, jj, jj, jj, jj, jj, jj, jj, jj, jj, jj] [] (0 : Nat))) (cellarerref12_PrintFired_res r) (cellarerref12_PrintFired_out r)) h (fun t_83 h => ?_) (fun s_90 x85 h85 K85 => ?_)
    ·
      exact W.retT 0 100000 h (by kernel_rfl)
    · unfold cellarerref12_PrintFired_b1 at h85
      refine W.cond 2 100000 h85 (by kernel_rfl) (fun h85 => ?_) (fun h85 => ?_)
      ·
        refine W.needT 2 100000 h85 (by kernel_rfl) (fun h85 => ?_)
        refine W.needT 2 100000 h85 (by kernel_rfl) (fun h85 => ?_)
        refine W.at 2 100000 [] [0, 5, 6, 7] (c' := (fun (s_91 : List UInt8 × Int) => (Cfg.mk Mode.run (headTodo Go.Proofs.Tryz.prog 17 1) (St.mk [AV.list (Ty.prod Ty.str (Ty.list Ty.str)) l_70 Bool.false, jj, jj, jj, jj, AV.str (Prod.fst s_91), AV.int IntKind.i64 (Prod.snd s_90), AV.int IntKind.i64 (Prod.snd s_91), jj, jj, jj, jj, jj, jj, jj, jj, jj, jj, jj, jj, jj, jj, jj, jj, jj, jj, jj, jj, jj, jj, jj, jj, jj, jj, jj, jj, jj, jj, jj, jj, jj, jj, jj, jj, jj, jj, jj, jj, jj, jj, jj, jj, jj, jj, jj, jj, jj, jj, jj] [] (0 : Nat)))) (Prod.fst s_90 ++ Prod.fst (List.getD l_70 (Int.toNat (Prod.snd s_90)) ([], [])), (0 : Int))) (by kernel_rfl) ?_
        refine W.loop (fun (s_91 : List UInt8 × Int) => (Cfg.mk Mode.run (headTodo Go.Proofs.Tryz.prog 17 1) (St.mk [AV.list (Ty.prod Ty.str (Ty.list Ty.str)) l_70 Bool.false, jj, jj, jj, jj, AV.str (Prod.fst s_91), AV.int IntKind.i64 (Prod.snd s_90), AV.int IntKind.i64 (Prod.snd s_91), jj, jj, jj, jj, jj, jj, jj, jj, jj, jj, jj, jj, jj, jj, jj, jj, jj, jj, jj, jj, jj, jj, jj, jj, jj, jj, jj, jj, jj, jj, jj, jj, jj, jj, jj, jj, jj, jj, jj, jj, jj, jj, jj, jj, jj, jj, jj, jj, jj, jj, jj] [] (0 : Nat)))) (fun t_80 => Walk Go.Proofs.Tryz.prog 17 (Cfg.mk Mode.run ((headTodo Go.Proofs.Tryz.prog 17 1).drop 3) (St.mk [AV.list (Ty.prod Ty.str (Ty.list Ty.str)) l_70 Bool.false, jj, jj, jj, jj, AV.str t_80, AV.int IntKind.i64 (Prod.snd s_90), jj, jj, jj, jj, jj, jj, jj, jj, jj, jj, jj, jj, jj, jj, jj, jj, jj, jj, jj, jj, jj, jj, jj, jj, jj, jj, jj, jj, jj, jj, jj, jj, jj, jj, jj, jj, jj, jj, jj, jj, jj, jj, jj, jj, jj, jj, jj, jj, jj, jj, jj, jj] [] (0 : Nat))) (cellarerref12_PrintFired_res r) (cellarerref12_PrintFired_out r)) h85 (fun t_80 h85 => ?_) (fun s_91 x82 h82 K82 => ?_)
        ·
          refine W.needT 2 100000 h85 (by kernel_rfl) (fun h85 => ?_)
          refine W.cond 2 100000 h85 (by kernel_rfl) (fun h85 => ?_) (fun h85 => ?_)
          ·
            refine W.needT 2 100000 h85 (by kernel_rfl) (fun h85 => ?_)
            refine W.needT 2 100000 h85 (by kernel_rfl) (fun h85 => ?_)
            cases h85; exact W.at 2 100000 [] [0, 5, 6] (by kernel_rfl) K85
          ·
            refine W.needT 2 100000 h85 (by kernel_rfl) (fun h85 => ?_)
            cases h85; exact W.at 2 100000 [] [0, 5, 6] (by kernel_rfl) K85
        · unfold cellarerref12_PrintFired_b0 at h82
          refine W.needT 7 100000 h82 (by kernel_rfl) (fun h82 => ?_)
          refine W.cond 7 100000 h82 (by kernel_rfl) (fun h82 => ?_) (fun h82 => ?_)
          ·
            refine W.needT 7 100000 h82 (by kernel_rfl) (fun h82 => ?_)
            refine W.needT 7 100000 h82 (by kernel_rfl) (fun h82 => ?_)
            refine W.needT 7 100000 h82 (by kernel_rfl) (fun h82 => ?_)
            refine W.needT 7 100000 h82 (by kernel_rfl) (fun h82 => ?_)
            cases h82; exact W.at 7 100000 [] [0, 5, 6, 7] (by kernel_rfl) K82
          ·
            cases h82; exact W.at 7 100000 [] [0, 5, 6] (by kernel_rfl) K82
      ·
        cases h85; exact W.at 2 100000 [] [5] (by kernel_rfl) K85

theorem trigs_ParseFired_con {s_93 : List UInt8} {r : Int × List (List UInt8 × List (List UInt8))} (h : trigs_ParseFired s_93 = some r) : Con Go.Proofs.Tryz.prog 20 [AV.str s_93] [] (trigs_ParseFired_res r) (trigs_ParseFired_out r) := by
  refine W.con (by kernel_rfl) ?_
  unfold trigs_ParseFired at h
  refine W.bind h fun a_94 ha_94 h => ?_
  refine W.call 0 100000 (by kernel_rfl) (stanza_Lines_con ha_94) (by kernel_rfl) ?_
  refine W.cond 0 100000 h (by kernel_rfl) (fun h => ?_) (fun h => ?_)
  ·
    exact W.retT 0 100000 h (by kernel_rfl)
  ·
    refine W.at 0 100000 [Co.own 6 (Ty.prod Ty.str (Ty.list Ty.str))] [6, 18, 19, 20] (c' := (fun (s_123 : Int × List (List UInt8 × List (List UInt8))) => (Cfg.mk Mode.run (headTodo Go.Proofs.Tryz.prog 20 0) (St.mk [jj, jj, jj, jj, jj, jj, AV.view (0 : Nat) (0 : Nat) Option.none, jj, jj, jj, jj, jj, jj, jj, jj, jj, jj, jj, AV.view (1 : Nat) (0 : Nat) Option.none, AV.int IntKind.i64 ((↑(List.length (Prod.snd a_94)) : Int) - (↑(0 : Nat) : Int)), AV.int IntKind.i64 (Prod.fst s_123), jj, jj, jj, jj, jj, jj, jj, jj, jj, jj, jj, jj, jj, jj, jj, jj, jj, jj, jj, jj, jj, jj, jj, jj, jj, jj, jj, jj, jj, jj, jj, jj, jj, jj, jj, jj] [AO.row (Ty.prod Ty.str (Ty.list Ty.str)) (Prod.snd s_123), AO.row Ty.str (Prod.snd a_94)] (0 : Nat)))) ((0 : Int), [])) (by kernel_rfl) ?_
    refine W.loop (fun (s_123 : Int × List (List UInt8 × List (List UInt8))) => (Cfg.mk Mode.run (headTodo Go.Proofs.Tryz.prog 20 0) (St.mk [jj, jj, jj, jj, jj, jj, AV.view (0 : Nat) (0 : Nat) Option.none, jj, jj, jj, jj, jj, jj, jj, jj, jj, jj, jj, AV.view (1 : Nat) (0 : Nat) Option.none, AV.int IntKind.i64 ((↑(List.length (Prod.snd a_94)) : Int) - (↑(0 : Nat) : Int)), AV.int IntKind.i64 (Prod.fst s_123), jj, jj, jj, jj, jj, jj, jj, jj, jj, jj, jj, jj, jj, jj, jj, jj, jj, jj, jj, jj, jj, jj, jj, jj, jj, jj, jj, jj, jj, jj, jj, jj, jj, jj, jj, jj] [AO.row (Ty.prod Ty.str (Ty.list Ty.str)) (Prod.snd s_123), AO.row Ty.str (Prod.snd a_94)] (0 : Nat)))) (fun t => (Sum.elim (fun t_114 => r = ((2 : Int), [])) (fun t_116 => Walk Go.Proofs.Tryz.prog 20 (Cfg.mk Mode.run ((headTodo Go.Proofs.Tryz.prog 20 0).drop 3) (St.mk [jj, jj, jj, jj, jj, jj, AV.view (0 : Nat) (0 : Nat) Option.none, jj, jj, jj, jj, jj, jj, jj, jj, jj, jj, jj, jj, jj, jj, jj, jj, jj, jj, jj, jj, jj, jj, jj, jj, jj, jj, jj, jj, jj, jj, jj, jj, jj, jj, jj, jj, jj, jj, jj, jj, jj, jj, jj, jj, jj, jj, jj, jj, jj, jj] [AO.row (Ty.prod Ty.str (Ty.list Ty.str)) t_116] (0 : Nat))) (trigs_ParseFired_res r) (trigs_ParseFired_out r))) t) h (fun t h => ?_) (fun s_123 x119 h119 K119 => ?_)
    ·
      rcases t with t_114 | t_116
      · replace h := W.inl (h)
        refine W.elimL (?_)
        exact (Option.some.inj h).symm
      · replace h := W.inr (h)
        refine W.elimR (?_)
        refine W.bind h fun a_117 ha_117 h => ?_
        refine W.call 0 100000 (by kernel_rfl) (trigs_CheckFired_con ha_117) (by kernel_rfl) ?_
        refine W.cond 0 100000 h (by kernel_rfl) (fun h => ?_) (fun h => ?_)
        ·
          exact W.retT 0 100000 h (by kernel_rfl)
        ·
          exact W.retT 0 100000 h (by kernel_rfl)
    · unfold trigs_ParseFired_b0 at h119
      refine W.cond 2 100000 h119 (by kernel_rfl) (fun h119 => ?_) (fun h119 => ?_)
      ·
        refine W.needT 2 100000 h119 (by kernel_rfl) (fun h119 => ?_)
        refine W.needT 2 100000 h119 (by kernel_rfl) (fun h119 => ?_)
        refine W.bind h119 fun a_108 ha_108 h119 => ?_
        refine W.call 2 100000 (by kernel_rfl) (Con.data (strings_Split_con ha_108)) (by kernel_rfl) ?_
        refine W.join (fun t => (Sum.elim (fun t_109 => r = ((2 : Int), [])) (fun t_111 => Walk Go.Proofs.Tryz.prog 20 (Cfg.mk Mode.run (seqTodo Go.Proofs.Tryz.prog 20 13) (St.mk [jj, jj, jj, jj, jj, jj, AV.view (0 : Nat) (0 : Nat) Option.none, jj, jj, AV.list Ty.str t_111 Bool.false, jj, jj, jj, jj, jj, jj, jj, jj, AV.view (1 : Nat) (0 : Nat) Option.none, AV.int IntKind.i64 ((↑(List.length (Prod.snd a_94)) : Int) - (↑(0 : Nat) : Int)), AV.int IntKind.i64 (Prod.fst s_123), jj, jj, jj, jj, jj, jj, jj, jj, jj, jj, jj, jj, jj, jj, jj, jj, jj, jj, jj, jj, jj, jj, jj, jj, jj, jj, jj, jj, jj, jj, jj, jj, jj, jj, jj, jj] [AO.row (Ty.prod Ty.str (Ty.list Ty.str)) (Prod.snd s_123), AO.row Ty.str (Prod.snd a_94)] (0 : Nat))) (trigs_ParseFired_res r) (trigs_ParseFired_out r))) t) h119 (fun t h119 => ?_) (fun t114 h114 K114 => ?_)
        ·
          rcases t with t_109 | t_111
          · replace h119 := W.inl (h119)
            refine W.elimL (?_)
            cases h119; exact K119
          · replace h119 := W.inr (h119)
            refine W.elimR (?_)
            refine W.needT 2 100000 h119 (by kernel_rfl) (fun h119 => ?_)
            refine W.needT 2 100000 h119 (by kernel_rfl) (fun h119 => ?_)
            refine W.bind h119 fun a_112 ha_112 h119 => ?_
            refine W.call 2 100000 (by kernel_rfl) (Con.data (slices_Clone___string_string__con ha_112)) (by kernel_rfl) ?_
            refine W.needT 2 100000 h119 (by kernel_rfl) (fun h119 => ?_)
            cases h119; exact W.at 2 100000 [Co.own 6 (Ty.prod Ty.str (Ty.list Ty.str))] [6, 18, 19, 20] (by kernel_rfl) K119
        · refine W.next 2 3 (by kernel_rfl) ?_
          refine W.cond 6 100000 h114 (by kernel_rfl) (fun h114 => ?_) (fun h114 => ?_)
          ·
            cases h114; exact W.retK 6 100000 K114 (by kernel_rfl)
          ·
            refine W.cond 6 100000 h114 (by kernel_rfl) (fun h114 => ?_) (fun h114 => ?_)
            ·
              refine W.yes 6 100000 (by kernel_rfl) ?_
              refine W.needT 6 100000 h114 (by kernel_rfl) (fun h114 => ?_)
              refine W.yes 6 100000 (by kernel_rfl) ?_
              refine W.yes 6 100000 (by kernel_rfl) ?_
              refine W.yes 6 100000 (by kernel_rfl) ?_
              refine W.cond 6 100000 h114 (by kernel_rfl) (fun h114 => ?_) (fun h114 => ?_)
              ·
                refine W.needT 6 100000 h114 (by kernel_rfl) (fun h114 => ?_)
                cases h114; exact W.at 6 100000 [] [6, 9, 18, 19, 20] (by kernel_rfl) K114
              ·
                cases h114; exact W.at 6 100000 [] [6, 9, 18, 19, 20] (by kernel_rfl) K114
            ·
              refine W.no 6 100000 (by kernel_rfl) ?_
              refine W.no 6 100000 (by kernel_rfl) ?_
              refine W.no 6 100000 (by kernel_rfl) ?_
              refine W.no 6 100000 (by kernel_rfl) ?_
              refine W.no 6 100000 (by kernel_rfl) ?_
              cases h114; exact W.at 6 100000 [] [6, 9, 18, 19, 20] (by kernel_rfl) K114
      ·
        cases h119; exact W.at 2 100000 [] [6] (by kernel_rfl) K119

theorem cellarerref12_SameFired_con {a_126 : List (List UInt8 × List (List UInt8))} {b_127 : List (List UInt8 × List (List UInt8))} {r : Bool} (h : cellarerref12_SameFired a_126 b_127 = some r) : Con Go.Proofs.Tryz.prog 21 [AV.list (Ty.prod Ty.str (Ty.list Ty.str)) a_126 Bool.false, AV.list (Ty.prod Ty.str (Ty.list Ty.str)) b_127 Bool.false] [] (cellarerref12_SameFired_res r) (cellarerref12_SameFired_out r) := by
  refine W.con (by kernel_rfl) ?_
  unfold cellarerref12_SameFired at h
  refine W.cond 0 100000 h (by kernel_rfl) (fun h => ?_) (fun h => ?_)
  ·
    exact W.retT 0 100000 h (by kernel_rfl)
  ·
    refine W.at 0 100000 [] [0, 1, 5] (c' := (fun (s_138 : Int) => (Cfg.mk Mode.run (headTodo Go.Proofs.Tryz.prog 21 0) (St.mk [AV.list (Ty.prod Ty.str (Ty.list Ty.str)) a_126 Bool.false, AV.list (Ty.prod Ty.str (Ty.list Ty.str)) b_127 Bool.false, jj, jj, jj, AV.int IntKind.i64 s_138, jj, jj, jj, jj, jj, jj, jj, jj, jj, jj, jj, jj, jj, jj, jj, jj, jj, jj, jj, jj, jj, jj, jj, jj, jj, jj, jj, jj, jj, jj, jj, jj, jj, jj, jj, jj] [] (0 : Nat)))) ((0 : Int))) (by kernel_rfl) ?_
    refine W.loop (fun (s_138 : Int) => (Cfg.mk Mode.run (headTodo Go.Proofs.Tryz.prog 21 0) (St.mk [AV.list (Ty.prod Ty.str (Ty.list Ty.str)) a_126 Bool.false, AV.list (Ty.prod Ty.str (Ty.list Ty.str)) b_127 Bool.false, jj, jj, jj, AV.int IntKind.i64 s_138, jj, jj, jj, jj, jj, jj, jj, jj, jj, jj, jj, jj, jj, jj, jj, jj, jj, jj, jj, jj, jj, jj, jj, jj, jj, jj, jj, jj, jj, jj, jj, jj, jj, jj, jj, jj] [] (0 : Nat)))) (fun t => (Sum.elim (fun t_132 => r = (Bool.false)) (fun t_133 => Walk Go.Proofs.Tryz.prog 21 (Cfg.mk Mode.run ((headTodo Go.Proofs.Tryz.prog 21 0).drop 3) (St.mk [jj, jj, jj, jj, jj, jj, jj, jj, jj, jj, jj, jj, jj, jj, jj, jj, jj, jj, jj, jj, jj, jj, jj, jj, jj, jj, jj, jj, jj, jj, jj, jj, jj, jj, jj, jj, jj, jj, jj, jj, jj, jj] [] (0 : Nat))) (cellarerref12_SameFired_res r) (cellarerref12_SameFired_out r))) t) h (fun t h => ?_) (fun s_138 x135 h135 K135 => ?_)
    ·
      rcases t with t_132 | t_133
      · replace h := W.inl (h)
        refine W.elimL (?_)
        exact (Option.some.inj h).symm
      · replace h := W.inr (h)
        refine W.elimR (?_)
        exact W.retT 0 100000 h (by kernel_rfl)
    · unfold cellarerref12_SameFired_b0 at h135
      refine W.cond 2 100000 h135 (by kernel_rfl) (fun h135 => ?_) (fun h135 => ?_)
      ·
        refine W.needT 2 100000 h135 (by kernel_rfl) (fun h135 => ?_)
        refine W.needT 2 100000 h135 (by kernel_rfl) (fun h135 => ?_)
        refine W.cond 2 100000 h135 (by kernel_rfl) (fun h135 => ?_) (fun h135 => ?_)
        ·
          refine W.yes 2 100000 (by kernel_rfl) ?_
          refine W.yes 2 100000 (by kernel_rfl) ?_
          refine W.yes 2 100000 (by kernel_rfl) ?_
          refine W.yes 2 100000 (by kernel_rfl) ?_
          refine W.yes 2 100000 (by kernel_rfl) ?_
          refine W.yes 2 100000 (by kernel_rfl) ?_
          refine W.yes 2 100000 (by kernel_rfl) ?_
          refine W.yes 2 100000 (by kernel_rfl) ?_
          refine W.yes 2 100000 (by kernel_rfl) ?_
          refine W.yes 2 100000 (by kernel_rfl) ?_
          refine W.yes 2 100000 (by kernel_rfl) ?_
          refine W.yes 2 100000 (by kernel_rfl) ?_
          refine W.yes 2 100000 (by kernel_rfl) ?_
          cases h135; exact W.retK 2 100000 K135 (by kernel_rfl)
        ·
          refine W.no 2 100000 (by kernel_rfl) ?_
          refine W.no 2 100000 (by kernel_rfl) ?_
          refine W.needT 2 100000 h135 (by kernel_rfl) (fun h135 => ?_)
          refine W.no 2 100000 (by kernel_rfl) ?_
          refine W.no 2 100000 (by kernel_rfl) ?_
          refine W.no 2 100000 (by kernel_rfl) ?_
          refine W.no 2 100000 (by kernel_rfl) ?_
          refine W.no 2 100000 (by kernel_rfl) ?_
          refine W.needT 2 100000 h135 (by kernel_rfl) (fun h135 => ?_)
          refine W.no 2 100000 (by kernel_rfl) ?_
          refine W.no 2 100000 (by kernel_rfl) ?_
          refine W.no 2 100000 (by kernel_rfl) ?_
          refine W.bind h135 fun a_131 ha_131 h135 => ?_
          refine W.call 2 100000 (by kernel_rfl) (cellarerref02_Same_con ha_131) (by kernel_rfl) ?_
          refine W.no 2 100000 (by kernel_rfl) ?_
          refine W.no 2 100000 (by kernel_rfl) ?_
          refine W.cond 2 100000 h135 (by kernel_rfl) (fun h135 => ?_) (fun h135 => ?_)
          ·
            cases h135; exact W.retK 2 100000 K135 (by kernel_rfl)
          ·
            cases h135; exact W.at 2 100000 [] [0, 1, 5] (by kernel_rfl) K135
      ·
        cases h135; exact W.at 2 100000 [] [] (by kernel_rfl) K135

theorem cellarerlaw12_TrigsFired_con {l_140 : List (List UInt8 × List (List UInt8))} {r : Bool} (h : cellarerlaw12_TrigsFired l_140 = some r) : Con Go.Proofs.Tryz.prog 4 [AV.list (Ty.prod Ty.str (Ty.list Ty.str)) l_140 Bool.false] [] (cellarerlaw12_TrigsFired_res r) (cellarerlaw12_TrigsFired_out r) := by
  refine W.con (by kernel_rfl) ?_
  unfold cellarerlaw12_TrigsFired at h
  refine W.bind h fun a_141 ha_141 h => ?_
  refine W.call 0 100000 (by kernel_rfl) (cellarerlaw12_FewFired_con ha_141) (by kernel_rfl) ?_
  refine W.cond 0 100000 h (by kernel_rfl) (fun h => ?_) (fun h => ?_)
  ·
    refine W.bind h fun a_142 ha_142 h => ?_
    refine W.call 0 100000 (by kernel_rfl) (cellarerlaw12_awake_con ha_142) (by kernel_rfl) ?_
    exact W.retT 0 100000 h (by kernel_rfl)
  ·
    refine W.bind h fun a_143 ha_143 h => ?_
    refine W.call 0 100000 (by kernel_rfl) (trigs_PrintFired_con ha_143) (by kernel_rfl) ?_
    refine W.bind h fun a_144 ha_144 h => ?_
    refine W.call 0 100000 (by kernel_rfl) (cellarerref12_PrintFired_con ha_144) (by kernel_rfl) ?_
    refine W.join (fun t => (Sum.elim (fun t_147 => r = (Bool.false)) (fun t_148 => Walk Go.Proofs.Tryz.prog 4 (Cfg.mk Mode.run (seqTodo Go.Proofs.Tryz.prog 4 6) (St.mk [AV.list (Ty.prod Ty.str (Ty.list Ty.str)) l_140 Bool.false, jj, jj, AV.str (Prod.fst a_143), AV.int IntKind.i64 (Prod.snd a_143), jj, jj, jj, jj, jj, jj, jj, jj, jj, jj, jj, jj, jj, jj, jj, jj, jj, jj, jj, jj, jj, jj, jj, jj, jj, jj, jj, jj, jj, jj, jj, jj, jj, jj, jj, jj, jj, jj, jj, jj, jj, jj, jj, jj, jj, jj, jj, jj, jj, jj, jj] [] (0 : Nat))) (cellarerlaw12_TrigsFired_res r) (cellarerlaw12_TrigsFired_out r))) t) h (fun t h => ?_) (fun t154 h154 K154 => ?_)
    ·
      rcases t with t_147 | t_148
      · replace h := W.inl (h)
        refine W.elimL (?_)
        exact (Option.some.inj h).symm
      · replace h := W.inr (h)
        refine W.elimR (?_)
        refine W.cond 0 100000 h (by kernel_rfl) (fun h => ?_) (fun h => ?_)
        ·
          refine W.bind h fun a_149 ha_149 h => ?_
          refine W.call 0 100000 (by kernel_rfl) (cellarerlaw12_awake_con ha_149) (by kernel_rfl) ?_
          exact W.retT 0 100000 h (by kernel_rfl)
        ·
          refine W.bind h fun a_150 ha_150 h => ?_
          refine W.call 0 100000 (by kernel_rfl) (trigs_ParseFired_con ha_150) (by kernel_rfl) ?_
          refine W.cond 0 100000 h (by kernel_rfl) (fun h => ?_) (fun h => ?_)
          ·
            refine W.yes 0 100000 (by kernel_rfl) ?_
            refine W.yes 0 100000 (by kernel_rfl) ?_
            refine W.bind h fun a_151 ha_151 h => ?_
            refine W.call 0 100000 (by kernel_rfl) (cellarerref12_SameFired_con ha_151) (by kernel_rfl) ?_
            refine W.yes 0 100000 (by kernel_rfl) ?_
            refine W.cond 0 100000 h (by kernel_rfl) (fun h => ?_) (fun h => ?_)
            ·
              refine W.bind h fun a_152 ha_152 h => ?_
              refine W.call 0 100000 (by kernel_rfl) (cellarerlaw12_awake_con ha_152) (by kernel_rfl) ?_
              refine W.yes 0 100000 (by kernel_rfl) ?_
              exact W.retT 0 100000 h (by kernel_rfl)
            ·
              refine W.no 0 100000 (by kernel_rfl) ?_
              exact W.retT 0 100000 h (by kernel_rfl)
          ·
            refine W.no 0 100000 (by kernel_rfl) ?_
            refine W.no 0 100000 (by kernel_rfl) ?_
            refine W.no 0 100000 (by kernel_rfl) ?_
            refine W.no 0 100000 (by kernel_rfl) ?_
            refine W.no 0 100000 (by kernel_rfl) ?_
            exact W.retT 0 100000 h (by kernel_rfl)
    · refine W.next 0 7 (by kernel_rfl) ?_
      refine W.cond 1 100000 h154 (by kernel_rfl) (fun h154 => ?_) (fun h154 => ?_)
      ·
        refine W.yes 1 100000 (by kernel_rfl) ?_
        refine W.yes 1 100000 (by kernel_rfl) ?_
        refine W.yes 1 100000 (by kernel_rfl) ?_
        refine W.yes 1 100000 (by kernel_rfl) ?_
        refine W.yes 1 100000 (by kernel_rfl) ?_
        refine W.yes 1 100000 (by kernel_rfl) ?_
        refine W.yes 1 100000 (by kernel_rfl) ?_
        refine W.yes 1 100000 (by kernel_rfl) ?_
        refine W.yes 1 100000 (by kernel_rfl) ?_
        refine W.yes 1 100000 (by kernel_rfl) ?_
        cases h154; exact W.retK 1 100000 K154 (by kernel_rfl)
      ·
        refine W.no 1 100000 (by kernel_rfl) ?_
        refine W.no 1 100000 (by kernel_rfl) ?_
        refine W.no 1 100000 (by kernel_rfl) ?_
        refine W.cond 1 100000 h154 (by kernel_rfl) (fun h154 => ?_) (fun h154 => ?_)
        ·
          refine W.yes 1 100000 (by kernel_rfl) ?_
          refine W.yes 1 100000 (by kernel_rfl) ?_
          refine W.yes 1 100000 (by kernel_rfl) ?_
          refine W.yes 1 100000 (by kernel_rfl) ?_
          refine W.yes 1 100000 (by kernel_rfl) ?_
          refine W.yes 1 100000 (by kernel_rfl) ?_
          cases h154; exact W.retK 1 100000 K154 (by kernel_rfl)
        ·
          refine W.no 1 100000 (by kernel_rfl) ?_
          refine W.bind h154 fun a_145 ha_145 h154 => ?_
          refine W.call 1 100000 (by kernel_rfl) (trigs_CheckFired_con ha_145) (by kernel_rfl) ?_
          refine W.no 1 100000 (by kernel_rfl) ?_
          refine W.no 1 100000 (by kernel_rfl) ?_
          refine W.bind h154 fun a_146 ha_146 h154 => ?_
          refine W.call 1 100000 (by kernel_rfl) (cellarerref12_CheckFired_con ha_146) (by kernel_rfl) ?_
          refine W.no 1 100000 (by kernel_rfl) ?_
          refine W.no 1 100000 (by kernel_rfl) ?_
          refine W.cond 1 100000 h154 (by kernel_rfl) (fun h154 => ?_) (fun h154 => ?_)
          ·
            cases h154; exact W.retK 1 100000 K154 (by kernel_rfl)
          ·
            cases h154; exact W.at 1 100000 [] [0, 3, 4] (by kernel_rfl) K154

theorem cellarerref06_Split_con {s_159 : List UInt8} {c_160 : Int} {r : List (List UInt8)} (h : cellarerref06_Split s_159 c_160 = some r) : Con Go.Proofs.Tryz.prog 51 [AV.str s_159, AV.int IntKind.u8 c_160] [] (cellarerref06_Split_res r) (cellarerref06_Split_out r) := by
  refine W.con (by kernel_rfl) ?_
  unfold cellarerref06_Split at h
  refine W.at 0 100000 [Co.own 5 (Ty.str)] [0, 1, 5, 6, 7] (c' := (fun (s_177 : List UInt8 × Int × List (List UInt8)) => (Cfg.mk Mode.run (headTodo Go.Proofs.Tryz.prog 51 0) (St.mk [AV.str s_159, AV.int IntKind.u8 c_160, jj, jj, jj, AV.view (0 : Nat) (0 : Nat) Option.none, AV.str (Prod.fst s_177), AV.int IntKind.i64 (Prod.fst (Prod.snd s_177)), jj, jj, jj, jj, jj, jj, jj, jj, jj, jj, jj, jj, jj, jj, jj, jj, jj, jj, jj, jj, jj, jj, jj, jj, jj, jj] [AO.row Ty.str (Prod.snd (Prod.snd s_177))] (0 : Nat)))) ([], (0 : Int), [])) (by kernel_rfl) ?_
  refine W.loop (fun (s_177 : List UInt8 × Int × List (List UInt8)) => (Cfg.mk Mode.run (headTodo Go.Proofs.Tryz.prog 51 0) (St.mk [AV.str s_159, AV.int IntKind.u8 c_160, jj, jj, jj, AV.view (0 : Nat) (0 : Nat) Option.none, AV.str (Prod.fst s_177), AV.int IntKind.i64 (Prod.fst (Prod.snd s_177)), jj, jj, jj, jj, jj, jj, jj, jj, jj, jj, jj, jj, jj, jj, jj, jj, jj, jj, jj, jj, jj, jj, jj, jj, jj, jj] [AO.row Ty.str (Prod.snd (Prod.snd s_177))] (0 : Nat)))) (fun t_172 => Walk Go.Proofs.Tryz.prog 51 (Cfg.mk Mode.run ((headTodo Go.Proofs.Tryz.prog 51 0).drop 3) (St.mk [jj, jj, jj, jj, jj, AV.view (0 : Nat) (0 : Nat) Option.none, AV.str (Prod.fst t_172), jj, jj, jj, jj, jj, jj, jj, jj, jj, jj, jj, jj, jj, jj, jj, jj, jj, jj, jj, jj, jj, jj, jj, jj, jj, jj, jj] [AO.row Ty.str (Prod.snd t_172)] (0 : Nat))) (cellarerref06_Split_res r) (cellarerref06_Split_out r)) h (fun t_172 h => ?_) (fun s_177 x174 h174 K174 => ?_)
  ·
    refine W.needT 0 100000 h (by kernel_rfl) (fun h => ?_)
    exact W.retT 0 100000 h (by kernel_rfl)
  · unfold cellarerref06_Split_b0 at h174
    refine W.cond 2 100000 h174 (by kernel_rfl) (fun h174 => ?_) (fun h174 => ?_)
    ·
      refine W.needT 2 100000 h174 (by kernel_rfl) (fun h174 => ?_)
      refine W.cond 2 100000 h174 (by kernel_rfl) (fun h174 => ?_) (fun h174 => ?_)
      ·
        refine W.needT 2 100000 h174 (by kernel_rfl) (fun h174 => ?_)
        cases h174; exact W.at 2 100000 [Co.own 5 (Ty.str)] [0, 1, 5, 6, 7] (by kernel_rfl) K174
      ·
        refine W.needT 2 100000 h174 (by kernel_rfl) (fun h174 => ?_)
        refine W.needT 2 100000 h174 (by kernel_rfl) (fun h174 => ?_)
        cases h174; exact W.at 2 100000 [Co.own 5 (Ty.str)] [0, 1, 5, 6, 7] (by kernel_rfl) K174
    ·
      cases h174; exact W.at 2 100000 [] [5, 6] (by kernel_rfl) K174

theorem cellarerref06_Lines_con {s_158 : List UInt8} {r : Bool × List (List UInt8)} (h : cellarerref06_Lines s_158 = some r) : Con Go.Proofs.Tryz.prog 50 [AV.str s_158] [] (cellarerref06_Lines_res r) (cellarerref06_Lines_out r) := by
  refine W.con (by kernel_rfl) ?_
  unfold cellarerref06_Lines at h
  refine W.bind h fun a_178 ha_178 h => ?_
  refine W.call 0 100000 (by kernel_rfl) (cellarerref06_Split_con ha_178) (by kernel_rfl) ?_
  refine W.needT 0 100000 h (by kernel_rfl) (fun h => ?_)
  refine W.needT 0 100000 h (by kernel_rfl) (fun h => ?_)
  refine W.needT 0 100000 h (by kernel_rfl) (fun h => ?_)
  exact W.retT 0 100000 h (by kernel_rfl)

theorem cellarerref12_Parse_con {s_157 : List UInt8} {r : Bool × List (List UInt8 × List UInt8 × Bool)} (h : cellarerref12_Parse s_157 = some r) : Con Go.Proofs.Tryz.prog 22 [AV.str s_157] [] (cellarerref12_Parse_res r) (cellarerref12_Parse_out r) := by
  refine W.con (by kernel_rfl) ?_
  unfold cellarerref12_Parse at h
  refine W.bind h fun a_182 ha_182 h => ?_
  refine W.call 0 100000 (by kernel_rfl) (cellarerref06_Lines_con ha_182) (by kernel_rfl) ?_
  refine W.at 0 100000 [Co.own 4 (Ty.prod Ty.str (Ty.prod Ty.str Ty.bool))] [0, 4, 5, 6, 7] (c' := (fun (s_213 : Int × List (List UInt8 × List UInt8 × Bool)) => (Cfg.mk Mode.run (headTodo Go.Proofs.Tryz.prog 22 0) (St.mk [AV.str s_157, jj, jj, jj, AV.view (0 : Nat) (0 : Nat) Option.none, AV.view (1 : Nat) (0 : Nat) Option.none, AV.bool (Prod.fst a_182), AV.int IntKind.i64 (Prod.fst s_213), jj, jj, jj, jj, jj, jj, jj, jj, jj, jj, jj, jj, jj, jj, jj, jj, jj, jj, jj, jj, jj, jj, jj, jj, jj, jj, jj, jj, jj, jj, jj, jj, jj, jj, jj, jj, jj, jj, jj, jj, jj, jj, jj, jj, jj, jj, jj, jj, jj, jj, jj, jj, jj, jj, jj, jj, jj, jj, jj, jj, jj, jj, jj, jj, jj, jj, jj, jj, jj, jj] [AO.row (Ty.prod Ty.str (Ty.prod Ty.str Ty.bool)) (Prod.snd s_213), AO.row Ty.str (Prod.snd a_182)] (0 : Nat)))) ((0 : Int), [])) (by kernel_rfl) ?_
  refine W.loop (fun (s_213 : Int × List (List UInt8 × List UInt8 × Bool)) => (Cfg.mk Mode.run (headTodo Go.Proofs.Tryz.prog 22 0) (St.mk [AV.str s_157, jj, jj, jj, AV.view (0 : Nat) (0 : Nat) Option.none, AV.view (1 : Nat) (0 : Nat) Option.none, AV.bool (Prod.fst a_182), AV.int IntKind.i64 (Prod.fst s_213), jj, jj, jj, jj, jj, jj, jj, jj, jj, jj, jj, jj, jj, jj, jj, jj, jj, jj, jj, jj, jj, jj, jj, jj, jj, jj, jj, jj, jj, jj, jj, jj, jj, jj, jj, jj, jj, jj, jj, jj, jj, jj, jj, jj, jj, jj, jj, jj, jj, jj, jj, jj, jj, jj, jj, jj, jj, jj, jj, jj, jj, jj, jj, jj, jj, jj, jj, jj, jj, jj] [AO.row (Ty.prod Ty.str (Ty.prod Ty.str Ty.bool)) (Prod.snd s_213), AO.row Ty.str (Prod.snd a_182)] (0 : Nat)))) (fun t => (Sum.elim (fun t_204 => r = (Bool.false, [])) (fun t_206 => Walk Go.Proofs.Tryz.prog 22 (Cfg.mk Mode.run ((headTodo Go.Proofs.Tryz.prog 22 0).drop 3) (St.mk [AV.str s_157, jj, jj, jj, AV.view (0 : Nat) (0 : Nat) Option.none, jj, AV.bool (Prod.fst a_182), jj, jj, jj, jj, jj, jj, jj, jj, jj, jj, jj, jj, jj, jj, jj, jj, jj, jj, jj, jj, jj, jj, jj, jj, jj, jj, jj, jj, jj, jj, jj, jj, jj, jj, jj, jj, jj, jj, jj, jj, jj, jj, jj, jj, jj, jj, jj, jj, jj, jj, jj, jj, jj, jj, jj, jj, jj, jj, jj, jj, jj, jj, jj, jj, jj, jj, jj, jj, jj, jj, jj] [AO.row (Ty.prod Ty.str (Ty.prod Ty.str Ty.bool)) t_206] (0 : Nat))) (cellarerref12_Parse_res r) (cellarerref12_Parse_out r))) t) h (fun t h => ?_) (fun s_213 x209 h209 K209 => ?_)
  ·
    rcases t with t_204 | t_206
    · replace h := W.inl (h)
      refine W.elimL (?_)
      exact (Option.some.inj h).symm
    · replace h := W.inr (h)
      refine W.elimR (?_)
      refine W.bind h fun a_207 ha_207 h => ?_
      refine W.call 0 100000 (by kernel_rfl) (cellarerref12_Print_con ha_207) (by kernel_rfl) ?_
      refine W.cond 0 100000 h (by kernel_rfl) (fun h => ?_) (fun h => ?_)
      ·
        refine W.yes 0 100000 (by kernel_rfl) ?_
        refine W.yes 0 100000 (by kernel_rfl) ?_
        refine W.yes 0 100000 (by kernel_rfl) ?_
        refine W.yes 0 100000 (by kernel_rfl) ?_
        refine W.yes 0 100000 (by kernel_rfl) ?_
        refine W.yes 0 100000 (by kernel_rfl) ?_
        refine W.yes 0 100000 (by kernel_rfl) ?_
        exact W.retT 0 100000 h (by kernel_rfl)
      ·
        refine W.no 0 100000 (by kernel_rfl) ?_
        refine W.no 0 100000 (by kernel_rfl) ?_
        refine W.cond 0 100000 h (by kernel_rfl) (fun h => ?_) (fun h => ?_)
        ·
          refine W.yes 0 100000 (by kernel_rfl) ?_
          refine W.yes 0 100000 (by kernel_rfl) ?_
          refine W.yes 0 100000 (by kernel_rfl) ?_
          refine W.yes 0 100000 (by kernel_rfl) ?_
          exact W.retT 0 100000 h (by kernel_rfl)
        ·
          refine W.no 0 100000 (by kernel_rfl) ?_
          refine W.no 0 100000 (by kernel_rfl) ?_
          refine W.no 0 100000 (by kernel_rfl) ?_
          refine W.cond 0 100000 h (by kernel_rfl) (fun h => ?_) (fun h => ?_)
          ·
            exact W.retT 0 100000 h (by kernel_rfl)
          ·
            exact W.retT 0 100000 h (by kernel_rfl)
  · unfold cellarerref12_Parse_b0 at h209
    refine W.cond 2 100000 h209 (by kernel_rfl) (fun h209 => ?_) (fun h209 => ?_)
    ·
      refine W.needT 2 100000 h209 (by kernel_rfl) (fun h209 => ?_)
      refine W.needT 2 100000 h209 (by kernel_rfl) (fun h209 => ?_)
      refine W.bind h209 fun a_198 ha_198 h209 => ?_
      refine W.call 2 100000 (by kernel_rfl) (cellarerref06_Split_con ha_198) (by kernel_rfl) ?_
      refine W.cond 2 100000 h209 (by kernel_rfl) (fun h209 => ?_) (fun h209 => ?_)
      ·
        cases h209; exact W.retK 2 100000 K209 (by kernel_rfl)
      ·
        refine W.needT 2 100000 h209 (by kernel_rfl) (fun h209 => ?_)
        refine W.needT 2 100000 h209 (by kernel_rfl) (fun h209 => ?_)
        refine W.needT 2 100000 h209 (by kernel_rfl) (fun h209 => ?_)
        refine W.needT 2 100000 h209 (by kernel_rfl) (fun h209 => ?_)
        refine W.needT 2 100000 h209 (by kernel_rfl) (fun h209 => ?_)
        refine W.needT 2 100000 h209 (by kernel_rfl) (fun h209 => ?_)
        refine W.bind h209 fun a_199 ha_199 h209 => ?_
        refine W.call 2 100000 (by kernel_rfl) (cellarerref06_Split_con ha_199) (by kernel_rfl) ?_
        refine W.join (fun t_202 => Walk Go.Proofs.Tryz.prog 22 (Cfg.mk Mode.run (seqTodo Go.Proofs.Tryz.prog 22 14) (St.mk [AV.str s_157, jj, jj, jj, AV.view (0 : Nat) (0 : Nat) Option.none, AV.view (1 : Nat) (0 : Nat) Option.none, AV.bool (Prod.fst a_182), AV.int IntKind.i64 (Prod.fst s_213), jj, AV.ptr (2 : Nat) (0 : Nat), jj, jj, jj, jj, jj, jj, jj, jj, jj, jj, jj, jj, jj, jj, jj, jj, jj, jj, jj, jj, jj, jj, jj, jj, jj, jj, jj, jj, jj, jj, jj, jj, jj, jj, jj, jj, jj, jj, jj, jj, jj, jj, jj, jj, jj, jj, jj, jj, jj, jj, jj, jj, jj, jj, jj, jj, jj, jj, jj, jj, jj, jj, jj, jj, jj, jj, jj, jj] [AO.row (Ty.prod Ty.str (Ty.prod Ty.str Ty.bool)) (Prod.snd s_213), AO.row Ty.str (Prod.snd a_182), AO.box [AV.str (List.getD a_198 (0 : Nat) []), AV.str (Prod.fst t_202), AV.bool (Prod.snd t_202)]] (0 : Nat))) (cellarerref12_Parse_res r) (cellarerref12_Parse_out r)) h209 (fun t_202 h209 => ?_) (fun t204 h204 K204 => ?_)
        ·
          refine W.needT 2 100000 h209 (by kernel_rfl) (fun h209 => ?_)
          cases h209; exact W.at 2 100000 [Co.own 4 (Ty.prod Ty.str (Ty.prod Ty.str Ty.bool))] [0, 4, 5, 6, 7] (by kernel_rfl) K209
        · refine W.next 2 3 (by kernel_rfl) ?_
          refine W.cond 6 100000 h204 (by kernel_rfl) (fun h204 => ?_) (fun h204 => ?_)
          ·
            refine W.yes 6 100000 (by kernel_rfl) ?_
            refine W.needT 6 100000 h204 (by kernel_rfl) (fun h204 => ?_)
            refine W.yes 6 100000 (by kernel_rfl) ?_
            refine W.needT 6 100000 h204 (by kernel_rfl) (fun h204 => ?_)
            refine W.yes 6 100000 (by kernel_rfl) ?_
            refine W.yes 6 100000 (by kernel_rfl) ?_
            refine W.cond 6 100000 h204 (by kernel_rfl) (fun h204 => ?_) (fun h204 => ?_)
            ·
              refine W.needT 6 100000 h204 (by kernel_rfl) (fun h204 => ?_)
              refine W.needT 6 100000 h204 (by kernel_rfl) (fun h204 => ?_)
              cases h204; exact W.at 6 100000 [] [0, 4, 5, 6, 7, 9] (by kernel_rfl) K204
            ·
              cases h204; exact W.at 6 100000 [] [0, 4, 5, 6, 7, 9] (by kernel_rfl) K204
          ·
            refine W.no 6 100000 (by kernel_rfl) ?_
            refine W.no 6 100000 (by kernel_rfl) ?_
            refine W.no 6 100000 (by kernel_rfl) ?_
            refine W.no 6 100000 (by kernel_rfl) ?_
            refine W.no 6 100000 (by kernel_rfl) ?_
            cases h204; exact W.at 6 100000 [] [0, 4, 5, 6, 7, 9] (by kernel_rfl) K204
    ·
      cases h209; exact W.at 2 100000 [] [0, 4, 6] (by kernel_rfl) K209

theorem cellarerref12_ParseFired_con {s_215 : List UInt8} {r : Bool × List (List UInt8 × List (List UInt8))} (h : cellarerref12_ParseFired s_215 = some r) : Con Go.Proofs.Tryz.prog 23 [AV.str s_215] [] (cellarerref12_ParseFired_res r) (cellarerref12_ParseFired_out r) := by
  refine W.con (by kernel_rfl) ?_
  unfold cellarerref12_ParseFired at h
  refine W.bind h fun a_216 ha_216 h => ?_
  refine W.call 0 100000 (by kernel_rfl) (cellarerref06_Lines_con ha_216) (by kernel_rfl) ?_
  refine W.at 0 100000 [Co.own 4 (Ty.prod Ty.str (Ty.list Ty.str))] [0, 4, 5, 6, 7] (c' := (fun (s_260 : Int × List (List UInt8 × List (List UInt8))) => (Cfg.mk Mode.run (headTodo Go.Proofs.Tryz.prog 23 0) (St.mk [AV.str s_215, jj, jj, jj, AV.view (0 : Nat) (0 : Nat) Option.none, AV.view (1 : Nat) (0 : Nat) Option.none, AV.bool (Prod.fst a_216), AV.int IntKind.i64 (Prod.fst s_260), jj, jj, jj, jj, jj, jj, jj, jj, jj, jj, jj, jj, jj, jj, jj, jj, jj, jj, jj, jj, jj, jj, jj, jj, jj, jj, jj, jj, jj, jj, jj, jj, jj, jj, jj, jj, jj, jj, jj, jj, jj, jj, jj, jj, jj, jj, jj, jj, jj, jj, jj, jj, jj, jj, jj, jj, jj, jj, jj, jj, jj, jj, jj, jj, jj, jj] [AO.row (Ty.prod Ty.str (Ty.list Ty.str)) (Prod.snd s_260), AO.row Ty.str (Prod.snd a_216)] (0 : Nat)))) ((0 : Int), [])) (by kernel_rfl) ?_
  refine W.loop (fun (s_260 : Int × List (List UInt8 × List (List UInt8))) => (Cfg.mk Mode.run (headTodo Go.Proofs.Tryz.prog 23 0) (St.mk [AV.str s_215, jj, jj, jj, AV.view (0 : Nat) (0 : Nat) Option.none, AV.view (1 : Nat) (0 : Nat) Option.none, AV.bool (Prod.fst a_216), AV.int IntKind.i64 (Prod.fst s_260), jj, jj, jj, jj, jj, jj, jj, jj, jj, jj, jj, jj, jj, jj, jj, jj, jj, jj, jj, jj, jj, jj, jj, jj, jj, jj, jj, jj, jj, jj, jj, jj, jj, jj, jj, jj, jj, jj, jj, jj, jj, jj, jj, jj, jj, jj, jj, jj, jj, jj, jj, jj, jj, jj, jj, jj, jj, jj, jj, jj, jj, jj, jj, jj, jj, jj] [AO.row (Ty.prod Ty.str (Ty.list Ty.str)) (Prod.snd s_260), AO.row Ty.str (Prod.snd a_216)] (0 : Nat)))) (fun t_252 => Walk Go.Proofs.Tryz.prog 23 (Cfg.mk Mode.run ((headTodo Go.Proofs.Tryz.prog 23 0).drop 3) (St.mk [AV.str s_215, jj, jj, jj, AV.view (0 : Nat) (0 : Nat) Option.none, jj, AV.bool (Prod.fst a_216), jj, jj, jj, jj, jj, jj, jj, jj, jj, jj, jj, jj, jj, jj, jj, jj, jj, jj, jj, jj, jj, jj, jj, jj, jj, jj, jj, jj, jj, jj, jj, jj, jj, jj, jj, jj, jj, jj, jj, jj, jj, jj, jj, jj, jj, jj, jj, jj, jj, jj, jj, jj, jj, jj, jj, jj, jj, jj, jj, jj, jj, jj, jj, jj, jj, jj, jj] [AO.row (Ty.prod Ty.str (Ty.list Ty.str)) t_252] (0 : Nat))) (cellarerref12_ParseFired_res r) (cellarerref12_ParseFired_out r)) h (fun t_252 h => ?_) (fun s_260 x255 h255 K255 => ?_)
  ·
    refine W.bind h fun a_253 ha_253 h => ?_
    refine W.call 0 100000 (by kernel_rfl) (cellarerref12_PrintFired_con ha_253) (by kernel_rfl) ?_
    refine W.cond 0 100000 h (by kernel_rfl) (fun h => ?_) (fun h => ?_)
    ·
      refine W.yes 0 100000 (by kernel_rfl) ?_
      refine W.yes 0 100000 (by kernel_rfl) ?_
      refine W.yes 0 100000 (by kernel_rfl) ?_
      refine W.yes 0 100000 (by kernel_rfl) ?_
      refine W.yes 0 100000 (by kernel_rfl) ?_
      refine W.yes 0 100000 (by kernel_rfl) ?_
      refine W.yes 0 100000 (by kernel_rfl) ?_
      exact W.retT 0 100000 h (by kernel_rfl)
    ·
      refine W.no 0 100000 (by kernel_rfl) ?_
      refine W.no 0 100000 (by kernel_rfl) ?_
      refine W.cond 0 100000 h (by kernel_rfl) (fun h => ?_) (fun h => ?_)
      ·
        refine W.yes 0 100000 (by kernel_rfl) ?_
        refine W.yes 0 100000 (by kernel_rfl) ?_
        refine W.yes 0 100000 (by kernel_rfl) ?_
        refine W.yes 0 100000 (by kernel_rfl) ?_
        exact W.retT 0 100000 h (by kernel_rfl)
      ·
        refine W.no 0 100000 (by kernel_rfl) ?_
        refine W.no 0 100000 (by kernel_rfl) ?_
        refine W.no 0 100000 (by kernel_rfl) ?_
        refine W.cond 0 100000 h (by kernel_rfl) (fun h => ?_) (fun h => ?_)
        ·
          exact W.retT 0 100000 h (by kernel_rfl)
        ·
          exact W.retT 0 100000 h (by kernel_rfl)
  · unfold cellarerref12_ParseFired_b1 at h255
    refine W.cond 2 100000 h255 (by kernel_rfl) (fun h255 => ?_) (fun h255 => ?_)
    ·
      refine W.needT 2 100000 h255 (by kernel_rfl) (fun h255 => ?_)
      refine W.needT 2 100000 h255 (by kernel_rfl) (fun h255 => ?_)
      refine W.bind h255 fun a_238 ha_238 h255 => ?_
      refine W.call 2 100000 (by kernel_rfl) (cellarerref06_Split_con ha_238) (by kernel_rfl) ?_
      refine W.needT 2 100000 h255 (by kernel_rfl) (fun h255 => ?_)
      refine W.needT 2 100000 h255 (by kernel_rfl) (fun h255 => ?_)
      refine W.growAt 2 100000 9 1 Ty.str [] [0, 4, 5, 6, 7, 8, 9, 10] (c' := (fun (s_261 : Int × List (List UInt8)) => (Cfg.mk Mode.run (headTodo Go.Proofs.Tryz.prog 23 1) (St.mk [AV.str s_215, jj, jj, jj, AV.view (0 : Nat) (0 : Nat) Option.none, AV.view (1 : Nat) (0 : Nat) Option.none, AV.bool (Prod.fst a_216), AV.int IntKind.i64 (Prod.fst s_260), AV.view (2 : Nat) (0 : Nat) Option.none, AV.ptr (3 : Nat) (0 : Nat), AV.int IntKind.i64 (Prod.fst s_261), jj, jj, jj, jj, jj, jj, jj, jj, jj, jj, jj, jj, jj, jj, jj, jj, jj, jj, jj, jj, jj, jj, jj, jj, jj, jj, jj, jj, jj, jj, jj, jj, jj, jj, jj, jj, jj, jj, jj, jj, jj, jj, jj, jj, jj, jj, jj, jj, jj, jj, jj, jj, jj, jj, jj, jj, jj, jj, jj, jj, jj, jj, jj] [AO.row (Ty.prod Ty.str (Ty.list Ty.str)) (Prod.snd s_260), AO.row Ty.str (Prod.snd a_216), AO.row Ty.str a_238, AO.box [AV.str (List.getD a_238 (0 : Nat) []), AV.view (4 : Nat) (0 : Nat) Option.none], AO.row Ty.str (Prod.snd s_261)] (0 : Nat)))) ((1 : Int), [])) (by kernel_rfl) ?_
      refine W.loop (fun (s_261 : Int × List (List UInt8)) => (Cfg.mk Mode.run (headTodo Go.Proofs.Tryz.prog 23 1) (St.mk [AV.str s_215, jj, jj, jj, AV.view (0 : Nat) (0 : Nat) Option.none, AV.view (1 : Nat) (0 : Nat) Option.none, AV.bool (Prod.fst a_216), AV.int IntKind.i64 (Prod.fst s_260), AV.view (2 : Nat) (0 : Nat) Option.none, AV.ptr (3 : Nat) (0 : Nat), AV.int IntKind.i64 (Prod.fst s_261), jj, jj, jj, jj, jj, jj, jj, jj, jj, jj, jj, jj, jj, jj, jj, jj, jj, jj, jj, jj, jj, jj, jj, jj, jj, jj, jj, jj, jj, jj, jj, jj, jj, jj, jj, jj, jj, jj, jj, jj, jj, jj, jj, jj, jj, jj, jj, jj, jj, jj, jj, jj, jj, jj, jj, jj, jj, jj, jj, jj, jj, jj, jj] [AO.row (Ty.prod Ty.str (Ty.list Ty.str)) (Prod.snd s_260), AO.row Ty.str (Prod.snd a_216), AO.row Ty.str a_238, AO.box [AV.str (List.getD a_238 (0 : Nat) []), AV.view (4 : Nat) (0 : Nat) Option.none], AO.row Ty.str (Prod.snd s_261)] (0 : Nat)))) (fun t_249 => Walk Go.Proofs.Tryz.prog 23 (Cfg.mk Mode.run ((headTodo Go.Proofs.Tryz.prog 23 1).drop 3) (St.mk [AV.str s_215, jj, jj, jj, AV.view (0 : Nat) (0 : Nat) Option.none, AV.view (1 : Nat) (0 : Nat) Option.none, AV.bool (Prod.fst a_216), AV.int IntKind.i64 (Prod.fst s_260), jj, AV.ptr (2 : Nat) (0 : Nat), jj, jj, jj, jj, jj, jj, jj, jj, jj, jj, jj, jj, jj, jj, jj, jj, jj, jj, jj, jj, jj, jj, jj, jj, jj, jj, jj, jj, jj, jj, jj, jj, jj, jj, jj, jj, jj, jj, jj, jj, jj, jj, jj, jj, jj, jj, jj, jj, jj, jj, jj, jj, jj, jj, jj, jj, jj, jj, jj, jj, jj, jj, jj, jj] [AO.row (Ty.prod Ty.str (Ty.list Ty.str)) (Prod.snd s_260), AO.row Ty.str (Prod.snd a_216), AO.box [AV.str (List.getD a_238 (0 : Nat) []), AV.view (3 : Nat) (0 : Nat) Option.none], AO.row Ty.str t_249] (0 : Nat))) (cellarerref12_ParseFired_res r) (cellarerref12_ParseFired_out r)) h255 (fun t_249 h255 => ?_) (fun s_261 x251 h251 K251 => ?_)
      ·
        refine W.needT 2 100000 h255 (by kernel_rfl) (fun h255 => ?_)
        cases h255; exact W.at 2 100000 [Co.own 4 (Ty.prod Ty.str (Ty.list Ty.str))] [0, 4, 5, 6, 7] (by kernel_rfl) K255
      · unfold cellarerref12_ParseFired_b0 at h251
        refine W.cond 7 100000 h251 (by kernel_rfl) (fun h251 => ?_) (fun h251 => ?_)
        ·
          refine W.needT 7 100000 h251 (by kernel_rfl) (fun h251 => ?_)
          refine W.needT 7 100000 h251 (by kernel_rfl) (fun h251 => ?_)
          refine W.cond 7 100000 h251 (by kernel_rfl) (fun h251 => ?_) (fun h251 => ?_)
          ·
            refine W.needT 7 100000 h251 (by kernel_rfl) (fun h251 => ?_)
            refine W.needT 7 100000 h251 (by kernel_rfl) (fun h251 => ?_)
            refine W.needT 7 100000 h251 (by kernel_rfl) (fun h251 => ?_)
            cases h251; exact W.at 7 100000 [] [0, 4, 5, 6, 7, 8, 9, 10] (by kernel_rfl) K251
          ·
            cases h251; exact W.at 7 100000 [] [0, 4, 5, 6, 7, 8, 9, 10] (by kernel_rfl) K251
        ·
          cases h251; exact W.at 7 100000 [] [0, 4, 5, 6, 7, 9] (by kernel_rfl) K251
    ·
      cases h255; exact W.at 2 100000 [] [0, 4, 6] (by kernel_rfl) K255

theorem cellarerlaw12_TrigsParses_con {s_263 : List UInt8} {r : Bool} (h : cellarerlaw12_TrigsParses s_263 = some r) : Con Go.Proofs.Tryz.prog 5 [AV.str s_263] [] (cellarerlaw12_TrigsParses_res r) (cellarerlaw12_TrigsParses_out r) := by
  refine W.con (by kernel_rfl) ?_
  unfold cellarerlaw12_TrigsParses at h
  refine W.cond 0 100000 h (by kernel_rfl) (fun h => ?_) (fun h => ?_)
  ·
    refine W.bind h fun a_264 ha_264 h => ?_
    refine W.call 0 100000 (by kernel_rfl) (cellarerlaw12_awake_con ha_264) (by kernel_rfl) ?_
    exact W.retT 0 100000 h (by kernel_rfl)
  ·
    refine W.bind h fun a_265 ha_265 h => ?_
    refine W.call 0 100000 (by kernel_rfl) (trigs_Parse_con ha_265) (by kernel_rfl) ?_
    refine W.bind h fun a_266 ha_266 h => ?_
    refine W.call 0 100000 (by kernel_rfl) (cellarerref12_Parse_con ha_266) (by kernel_rfl) ?_
    refine W.bind h fun a_267 ha_267 h => ?_
    refine W.call 0 100000 (by kernel_rfl) (trigs_ParseFired_con ha_267) (by kernel_rfl) ?_
    refine W.bind h fun a_268 ha_268 h => ?_
    refine W.call 0 100000 (by kernel_rfl) (cellarerref12_ParseFired_con ha_268) (by kernel_rfl) ?_
    refine W.join (fun t => (Sum.elim (fun t_272 => r = (Bool.false)) (fun t_273 => Walk Go.Proofs.Tryz.prog 5 (Cfg.mk Mode.run (seqTodo Go.Proofs.Tryz.prog 5 8) (St.mk [AV.str s_263, jj, jj, AV.view (0 : Nat) (0 : Nat) Option.none, jj, jj, AV.bool (Prod.fst a_266), AV.view (1 : Nat) (0 : Nat) Option.none, jj, jj, AV.bool (Prod.fst a_268), jj, jj, jj, jj, jj, jj, jj, jj, jj, jj, jj, jj, jj, jj, jj, jj, jj, jj, jj, jj, jj, jj, jj, jj, jj, jj, jj, jj, jj, jj, jj, jj, jj, jj, jj, jj, jj, jj, jj, jj, jj, jj, jj, jj, jj, jj, jj, jj, jj, jj, jj, jj, jj, jj, jj, jj, jj, jj, jj, jj, jj, jj, jj, jj, jj, jj, jj, jj, jj, jj, jj, jj, jj, jj, jj, jj, jj, jj, jj, jj, jj, jj, jj, jj, jj, jj, jj, jj, jj, jj, jj, jj, jj, jj, jj, jj, jj, jj, jj, jj, jj, jj, jj] [AO.row (Ty.prod Ty.str (Ty.prod Ty.str Ty.bool)) (Prod.snd a_265), AO.row (Ty.prod Ty.str (Ty.list Ty.str)) (Prod.snd a_267)] (0 : Nat))) (cellarerlaw12_TrigsParses_res r) (cellarerlaw12_TrigsParses_out r))) t) h (fun t h => ?_) (fun t281 h281 K281 => ?_)
    ·
      rcases t with t_272 | t_273
      · replace h := W.inl (h)
        refine W.elimL (?_)
        exact (Option.some.inj h).symm
      · replace h := W.inr (h)
        refine W.elimR (?_)
        refine W.bind h fun a_274 ha_274 h => ?_
        refine W.call 0 100000 (by kernel_rfl) (trigs_Print_con ha_274) (by kernel_rfl) ?_
        refine W.bind h fun a_275 ha_275 h => ?_
        refine W.call 0 100000 (by kernel_rfl) (trigs_PrintFired_con ha_275) (by kernel_rfl) ?_
        refine W.cond 0 100000 h (by kernel_rfl) (fun h => ?_) (fun h => ?_)
        ·
          refine W.yes 0 100000 (by kernel_rfl) ?_
          refine W.yes 0 100000 (by kernel_rfl) ?_
          refine W.yes 0 100000 (by kernel_rfl) ?_
          refine W.yes 0 100000 (by kernel_rfl) ?_
          refine W.yes 0 100000 (by kernel_rfl) ?_
          refine W.yes 0 100000 (by kernel_rfl) ?_
          refine W.yes 0 100000 (by kernel_rfl) ?_
          refine W.cond 0 100000 h (by kernel_rfl) (fun h => ?_) (fun h => ?_)
          ·
            refine W.yes 0 100000 (by kernel_rfl) ?_
            refine W.yes 0 100000 (by kernel_rfl) ?_
            refine W.yes 0 100000 (by kernel_rfl) ?_
            refine W.yes 0 100000 (by kernel_rfl) ?_
            refine W.yes 0 100000 (by kernel_rfl) ?_
            refine W.yes 0 100000 (by kernel_rfl) ?_
            refine W.yes 0 100000 (by kernel_rfl) ?_
            refine W.bind h fun a_276 ha_276 h => ?_
            refine W.call 0 100000 (by kernel_rfl) (cellarerlaw12_awake_con ha_276) (by kernel_rfl) ?_
            refine W.yes 0 100000 (by kernel_rfl) ?_
            exact W.retT 0 100000 h (by kernel_rfl)
          ·
            refine W.no 0 100000 (by kernel_rfl) ?_
            refine W.no 0 100000 (by kernel_rfl) ?_
            refine W.cond 0 100000 h (by kernel_rfl) (fun h => ?_) (fun h => ?_)
            ·
              refine W.yes 0 100000 (by kernel_rfl) ?_
              refine W.yes 0 100000 (by kernel_rfl) ?_
              refine W.no 0 100000 (by kernel_rfl) ?_
              refine W.yes 0 100000 (by kernel_rfl) ?_
              refine W.yes 0 100000 (by kernel_rfl) ?_
              refine W.no 0 100000 (by kernel_rfl) ?_
              refine W.yes 0 100000 (by kernel_rfl) ?_
              refine W.cond 0 100000 h (by kernel_rfl) (fun h => ?_) (fun h => ?_)
              ·
                refine W.bind h fun a_277 ha_277 h => ?_
                refine W.call 0 100000 (by kernel_rfl) (cellarerlaw12_awake_con ha_277) (by kernel_rfl) ?_
                refine W.yes 0 100000 (by kernel_rfl) ?_
                exact W.retT 0 100000 h (by kernel_rfl)
              ·
                refine W.no 0 100000 (by kernel_rfl) ?_
                exact W.retT 0 100000 h (by kernel_rfl)
            ·
              refine W.no 0 100000 (by kernel_rfl) ?_
              refine W.no 0 100000 (by kernel_rfl) ?_
              refine W.no 0 100000 (by kernel_rfl) ?_
              refine W.no 0 100000 (by kernel_rfl) ?_
              refine W.yes 0 100000 (by kernel_rfl) ?_
              refine W.no 0 100000 (by kernel_rfl) ?_
              refine W.yes 0 100000 (by kernel_rfl) ?_
              refine W.no 0 100000 (by kernel_rfl) ?_
              refine W.no 0 100000 (by kernel_rfl) ?_
              exact W.retT 0 100000 h (by kernel_rfl)
        ·
          refine W.no 0 100000 (by kernel_rfl) ?_
          refine W.no 0 100000 (by kernel_rfl) ?_
          refine W.cond 0 100000 h (by kernel_rfl) (fun h => ?_) (fun h => ?_)
          ·
            refine W.yes 0 100000 (by kernel_rfl) ?_
            refine W.yes 0 100000 (by kernel_rfl) ?_
            refine W.no 0 100000 (by kernel_rfl) ?_
            refine W.yes 0 100000 (by kernel_rfl) ?_
            refine W.no 0 100000 (by kernel_rfl) ?_
            refine W.cond 0 100000 h (by kernel_rfl) (fun h => ?_) (fun h => ?_)
            ·
              refine W.yes 0 100000 (by kernel_rfl) ?_
              refine W.yes 0 100000 (by kernel_rfl) ?_
              refine W.cond 0 100000 h (by kernel_rfl) (fun h => ?_) (fun h => ?_)
              ·
                refine W.yes 0 100000 (by kernel_rfl) ?_
                refine W.yes 0 100000 (by kernel_rfl) ?_
                refine W.yes 0 100000 (by kernel_rfl) ?_
                refine W.yes 0 100000 (by kernel_rfl) ?_
                refine W.yes 0 100000 (by kernel_rfl) ?_
                refine W.yes 0 100000 (by kernel_rfl) ?_
                refine W.yes 0 100000 (by kernel_rfl) ?_
                refine W.bind h fun a_278 ha_278 h => ?_
                refine W.call 0 100000 (by kernel_rfl) (cellarerlaw12_awake_con ha_278) (by kernel_rfl) ?_
                refine W.yes 0 100000 (by kernel_rfl) ?_
                exact W.retT 0 100000 h (by kernel_rfl)
              ·
                refine W.no 0 100000 (by kernel_rfl) ?_
                refine W.no 0 100000 (by kernel_rfl) ?_
                refine W.cond 0 100000 h (by kernel_rfl) (fun h => ?_) (fun h => ?_)
                ·
                  refine W.yes 0 100000 (by kernel_rfl) ?_
                  refine W.yes 0 100000 (by kernel_rfl) ?_
                  refine W.no 0 100000 (by kernel_rfl) ?_
                  refine W.yes 0 100000 (by kernel_rfl) ?_
                  refine W.yes 0 100000 (by kernel_rfl) ?_
                  refine W.no 0 100000 (by kernel_rfl) ?_
                  refine W.yes 0 100000 (by kernel_rfl) ?_
                  refine W.cond 0 100000 h (by kernel_rfl) (fun h => ?_) (fun h => ?_)
                  ·
                    refine W.bind h fun a_279 ha_279 h => ?_
                    refine W.call 0 100000 (by kernel_rfl) (cellarerlaw12_awake_con ha_279) (by kernel_rfl) ?_
                    refine W.yes 0 100000 (by kernel_rfl) ?_
                    exact W.retT 0 100000 h (by kernel_rfl)
                  ·
                    refine W.no 0 100000 (by kernel_rfl) ?_
                    exact W.retT 0 100000 h (by kernel_rfl)
                ·
                  refine W.no 0 100000 (by kernel_rfl) ?_
                  refine W.no 0 100000 (by kernel_rfl) ?_
                  refine W.no 0 100000 (by kernel_rfl) ?_
                  refine W.no 0 100000 (by kernel_rfl) ?_
                  refine W.yes 0 100000 (by kernel_rfl) ?_
                  refine W.no 0 100000 (by kernel_rfl) ?_
                  refine W.yes 0 100000 (by kernel_rfl) ?_
                  refine W.no 0 100000 (by kernel_rfl) ?_
                  refine W.no 0 100000 (by kernel_rfl) ?_
                  exact W.retT 0 100000 h (by kernel_rfl)
            ·
              refine W.no 0 100000 (by kernel_rfl) ?_
              refine W.no 0 100000 (by kernel_rfl) ?_
              refine W.no 0 100000 (by kernel_rfl) ?_
              refine W.no 0 100000 (by kernel_rfl) ?_
              refine W.no 0 100000 (by kernel_rfl) ?_
              refine W.no 0 100000 (by kernel_rfl) ?_
              exact W.retT 0 100000 h (by kernel_rfl)
          ·
            refine W.no 0 100000 (by kernel_rfl) ?_
            refine W.no 0 100000 (by kernel_rfl) ?_
            refine W.no 0 100000 (by kernel_rfl) ?_
            refine W.no 0 100000 (by kernel_rfl) ?_
            refine W.no 0 100000 (by kernel_rfl) ?_
            refine W.no 0 100000 (by kernel_rfl) ?_
            refine W.no 0 100000 (by kernel_rfl) ?_
            refine W.no 0 100000 (by kernel_rfl) ?_
            refine W.no 0 100000 (by kernel_rfl) ?_
            refine W.no 0 100000 (by kernel_rfl) ?_
            refine W.no 0 100000 (by kernel_rfl) ?_
            refine W.no 0 100000 (by kernel_rfl) ?_
            exact W.retT 0 100000 h (by kernel_rfl)
    · refine W.next 0 7 (by kernel_rfl) ?_
      refine W.cond 1 100000 h281 (by kernel_rfl) (fun h281 => ?_) (fun h281 => ?_)
      ·
        refine W.yes 1 100000 (by kernel_rfl) ?_
        refine W.yes 1 100000 (by kernel_rfl) ?_
        refine W.yes 1 100000 (by kernel_rfl) ?_
        refine W.yes 1 100000 (by kernel_rfl) ?_
        refine W.yes 1 100000 (by kernel_rfl) ?_
        refine W.yes 1 100000 (by kernel_rfl) ?_
        refine W.yes 1 100000 (by kernel_rfl) ?_
        refine W.yes 1 100000 (by kernel_rfl) ?_
        refine W.yes 1 100000 (by kernel_rfl) ?_
        refine W.yes 1 100000 (by kernel_rfl) ?_
        refine W.yes 1 100000 (by kernel_rfl) ?_
        refine W.yes 1 100000 (by kernel_rfl) ?_
        refine W.yes 1 100000 (by kernel_rfl) ?_
        refine W.yes 1 100000 (by kernel_rfl) ?_
        refine W.yes 1 100000 (by kernel_rfl) ?_
        refine W.yes 1 100000 (by kernel_rfl) ?_
        refine W.yes 1 100000 (by kernel_rfl) ?_
        refine W.yes 1 100000 (by kernel_rfl) ?_
        refine W.yes 1 100000 (by kernel_rfl) ?_
        refine W.yes 1 100000 (by kernel_rfl) ?_
        refine W.yes 1 100000 (by kernel_rfl) ?_
        refine W.yes 1 100000 (by kernel_rfl) ?_
        refine W.yes 1 100000 (by kernel_rfl) ?_
        refine W.yes 1 100000 (by kernel_rfl) ?_
        refine W.yes 1 100000 (by kernel_rfl) ?_
        cases h281; exact W.retK 1 100000 K281 (by kernel_rfl)
      ·
        refine W.no 1 100000 (by kernel_rfl) ?_
        refine W.no 1 100000 (by kernel_rfl) ?_
        refine W.bind h281 fun a_269 ha_269 h281 => ?_
        refine W.call 1 100000 (by kernel_rfl) (cellarerref12_Same_con ha_269) (by kernel_rfl) ?_
        refine W.no 1 100000 (by kernel_rfl) ?_
        refine W.no 1 100000 (by kernel_rfl) ?_
        refine W.cond 1 100000 h281 (by kernel_rfl) (fun h281 => ?_) (fun h281 => ?_)
        ·
          refine W.yes 1 100000 (by kernel_rfl) ?_
          refine W.yes 1 100000 (by kernel_rfl) ?_
          refine W.yes 1 100000 (by kernel_rfl) ?_
          refine W.yes 1 100000 (by kernel_rfl) ?_
          refine W.yes 1 100000 (by kernel_rfl) ?_
          refine W.yes 1 100000 (by kernel_rfl) ?_
          refine W.yes 1 100000 (by kernel_rfl) ?_
          refine W.yes 1 100000 (by kernel_rfl) ?_
          refine W.yes 1 100000 (by kernel_rfl) ?_
          refine W.yes 1 100000 (by kernel_rfl) ?_
          refine W.yes 1 100000 (by kernel_rfl) ?_
          refine W.yes 1 100000 (by kernel_rfl) ?_
          refine W.yes 1 100000 (by kernel_rfl) ?_
          refine W.yes 1 100000 (by kernel_rfl) ?_
          refine W.yes 1 100000 (by kernel_rfl) ?_
          refine W.yes 1 100000 (by kernel_rfl) ?_
          refine W.yes 1 100000 (by kernel_rfl) ?_
          refine W.yes 1 100000 (by kernel_rfl) ?_
          refine W.yes 1 100000 (by kernel_rfl) ?_
          refine W.yes 1 100000 (by kernel_rfl) ?_
          cases h281; exact W.retK 1 100000 K281 (by kernel_rfl)
        ·
          refine W.no 1 100000 (by kernel_rfl) ?_
          refine W.no 1 100000 (by kernel_rfl) ?_
          refine W.cond 1 100000 h281 (by kernel_rfl) (fun h281 => ?_) (fun h281 => ?_)
          ·
            refine W.yes 1 100000 (by kernel_rfl) ?_
            refine W.no 1 100000 (by kernel_rfl) ?_
            refine W.yes 1 100000 (by kernel_rfl) ?_
            refine W.no 1 100000 (by kernel_rfl) ?_
            refine W.cond 1 100000 h281 (by kernel_rfl) (fun h281 => ?_) (fun h281 => ?_)
            ·
              refine W.yes 1 100000 (by kernel_rfl) ?_
              refine W.yes 1 100000 (by kernel_rfl) ?_
              refine W.yes 1 100000 (by kernel_rfl) ?_
              refine W.yes 1 100000 (by kernel_rfl) ?_
              refine W.yes 1 100000 (by kernel_rfl) ?_
              refine W.yes 1 100000 (by kernel_rfl) ?_
              refine W.yes 1 100000 (by kernel_rfl) ?_
              refine W.yes 1 100000 (by kernel_rfl) ?_
              refine W.yes 1 100000 (by kernel_rfl) ?_
              refine W.yes 1 100000 (by kernel_rfl) ?_
              refine W.yes 1 100000 (by kernel_rfl) ?_
              refine W.yes 1 100000 (by kernel_rfl) ?_
              refine W.yes 1 100000 (by kernel_rfl) ?_
              refine W.yes 1 100000 (by kernel_rfl) ?_
              refine W.yes 1 100000 (by kernel_rfl) ?_
              cases h281; exact W.retK 1 100000 K281 (by kernel_rfl)
            ·
              refine W.no 1 100000 (by kernel_rfl) ?_
              refine W.no 1 100000 (by kernel_rfl) ?_
              refine W.no 1 100000 (by kernel_rfl) ?_
              refine W.no 1 100000 (by kernel_rfl) ?_
              refine W.cond 1 100000 h281 (by kernel_rfl) (fun h281 => ?_) (fun h281 => ?_)
              ·
                refine W.yes 1 100000 (by kernel_rfl) ?_
                refine W.yes 1 100000 (by kernel_rfl) ?_
                refine W.yes 1 100000 (by kernel_rfl) ?_
                refine W.yes 1 100000 (by kernel_rfl) ?_
                refine W.yes 1 100000 (by kernel_rfl) ?_
                refine W.yes 1 100000 (by kernel_rfl) ?_
                refine W.yes 1 100000 (by kernel_rfl) ?_
                refine W.yes 1 100000 (by kernel_rfl) ?_
                refine W.yes 1 100000 (by kernel_rfl) ?_
                refine W.yes 1 100000 (by kernel_rfl) ?_
                cases h281; exact W.retK 1 100000 K281 (by kernel_rfl)
              ·
                refine W.no 1 100000 (by kernel_rfl) ?_
                refine W.no 1 100000 (by kernel_rfl) ?_
                refine W.bind h281 fun a_270 ha_270 h281 => ?_
                refine W.call 1 100000 (by kernel_rfl) (cellarerref12_SameFired_con ha_270) (by kernel_rfl) ?_
                refine W.no 1 100000 (by kernel_rfl) ?_
                refine W.no 1 100000 (by kernel_rfl) ?_
                refine W.cond 1 100000 h281 (by kernel_rfl) (fun h281 => ?_) (fun h281 => ?_)
                ·
                  refine W.yes 1 100000 (by kernel_rfl) ?_
                  refine W.yes 1 100000 (by kernel_rfl) ?_
                  refine W.yes 1 100000 (by kernel_rfl) ?_
                  refine W.yes 1 100000 (by kernel_rfl) ?_
                  refine W.yes 1 100000 (by kernel_rfl) ?_
                  cases h281; exact W.retK 1 100000 K281 (by kernel_rfl)
                ·
                  refine W.no 1 100000 (by kernel_rfl) ?_
                  refine W.no 1 100000 (by kernel_rfl) ?_
                  refine W.cond 1 100000 h281 (by kernel_rfl) (fun h281 => ?_) (fun h281 => ?_)
                  ·
                    refine W.yes 1 100000 (by kernel_rfl) ?_
                    refine W.no 1 100000 (by kernel_rfl) ?_
                    refine W.yes 1 100000 (by kernel_rfl) ?_
                    refine W.no 1 100000 (by kernel_rfl) ?_
                    refine W.cond 1 100000 h281 (by kernel_rfl) (fun h281 => ?_) (fun h281 => ?_)
                    ·
                      cases h281; exact W.retK 1 100000 K281 (by kernel_rfl)
                    ·
                      cases h281; exact W.at 1 100000 [] [0, 3, 6, 7, 10] (by kernel_rfl) K281
                  ·
                    refine W.no 1 100000 (by kernel_rfl) ?_
                    refine W.no 1 100000 (by kernel_rfl) ?_
                    refine W.no 1 100000 (by kernel_rfl) ?_
                    refine W.no 1 100000 (by kernel_rfl) ?_
                    refine W.no 1 100000 (by kernel_rfl) ?_
                    cases h281; exact W.at 1 100000 [] [0, 3, 6, 7, 10] (by kernel_rfl) K281
          ·
            refine W.no 1 100000 (by kernel_rfl) ?_
            refine W.no 1 100000 (by kernel_rfl) ?_
            refine W.no 1 100000 (by kernel_rfl) ?_
            refine W.no 1 100000 (by kernel_rfl) ?_
            refine W.no 1 100000 (by kernel_rfl) ?_
            refine W.no 1 100000 (by kernel_rfl) ?_
            refine W.no 1 100000 (by kernel_rfl) ?_
            refine W.no 1 100000 (by kernel_rfl) ?_
            refine W.no 1 100000 (by kernel_rfl) ?_
            refine W.cond 1 100000 h281 (by kernel_rfl) (fun h281 => ?_) (fun h281 => ?_)
            ·
              refine W.yes 1 100000 (by kernel_rfl) ?_
              refine W.yes 1 100000 (by kernel_rfl) ?_
              refine W.yes 1 100000 (by kernel_rfl) ?_
              refine W.yes 1 100000 (by kernel_rfl) ?_
              refine W.yes 1 100000 (by kernel_rfl) ?_
              refine W.yes 1 100000 (by kernel_rfl) ?_
              refine W.yes 1 100000 (by kernel_rfl) ?_
              refine W.yes 1 100000 (by kernel_rfl) ?_
              refine W.yes 1 100000 (by kernel_rfl) ?_
              refine W.yes 1 100000 (by kernel_rfl) ?_
              cases h281; exact W.retK 1 100000 K281 (by kernel_rfl)
            ·
              refine W.no 1 100000 (by kernel_rfl) ?_
              refine W.no 1 100000 (by kernel_rfl) ?_
              refine W.bind h281 fun a_271 ha_271 h281 => ?_
              refine W.call 1 100000 (by kernel_rfl) (cellarerref12_SameFired_con ha_271) (by kernel_rfl) ?_
              refine W.no 1 100000 (by kernel_rfl) ?_
              refine W.no 1 100000 (by kernel_rfl) ?_
              refine W.cond 1 100000 h281 (by kernel_rfl) (fun h281 => ?_) (fun h281 => ?_)
              ·
                refine W.yes 1 100000 (by kernel_rfl) ?_
                refine W.yes 1 100000 (by kernel_rfl) ?_
                refine W.yes 1 100000 (by kernel_rfl) ?_
                refine W.yes 1 100000 (by kernel_rfl) ?_
                refine W.yes 1 100000 (by kernel_rfl) ?_
                cases h281; exact W.retK 1 100000 K281 (by kernel_rfl)
              ·
                refine W.no 1 100000 (by kernel_rfl) ?_
                refine W.no 1 100000 (by kernel_rfl) ?_
                refine W.cond 1 100000 h281 (by kernel_rfl) (fun h281 => ?_) (fun h281 => ?_)
                ·
                  refine W.yes 1 100000 (by kernel_rfl) ?_
                  refine W.no 1 100000 (by kernel_rfl) ?_
                  refine W.yes 1 100000 (by kernel_rfl) ?_
                  refine W.no 1 100000 (by kernel_rfl) ?_
                  refine W.cond 1 100000 h281 (by kernel_rfl) (fun h281 => ?_) (fun h281 => ?_)
                  ·
                    cases h281; exact W.retK 1 100000 K281 (by kernel_rfl)
                  ·
                    cases h281; exact W.at 1 100000 [] [0, 3, 6, 7, 10] (by kernel_rfl) K281
                ·
                  refine W.no 1 100000 (by kernel_rfl) ?_
                  refine W.no 1 100000 (by kernel_rfl) ?_
                  refine W.no 1 100000 (by kernel_rfl) ?_
                  refine W.no 1 100000 (by kernel_rfl) ?_
                  refine W.no 1 100000 (by kernel_rfl) ?_
                  cases h281; exact W.at 1 100000 [] [0, 3, 6, 7, 10] (by kernel_rfl) K281

end Go.Cellar
