/- What the program's functions come to: printed by a program, checked by Lean. No condition. -/
import Derived.Test.YtmeglodejjkmoaaDoorFun2
import Derived.Test.YtmeglodejjkmoaaDoorPs2
set_option maxRecDepth 4000
set_option synthInstance.maxHeartbeats 2000000
set_option synthInstance.maxSize 100000
set_option linter.unusedVariables false
namespace Go.Cellar
open Go

theorem path_Name_con {s_1 : List UInt8} {r : Bool} (h : path_Name s_1 = some r) : Con Go.Proofs.Tryd.prog 14 [AV.str s_1] [] (path_Name_res r) (path_Name_out r) := by
  refine W.con (by kernel_rfl) ?_
  unfold path_Name at h
  refine W.join (fun t => (Sum.elim (fun t_2 => r = (Bool.false)) (fun t_3 => Walk Go.Proofs.Tryd.prog 14 (Cfg.mk Mode.run (seqTodo Go.Proofs.Tryd.prog 14 1) (St.mk [AV.str s_1, jj, jj, jj, jj, jj, jj, jj, jj, jj, jj, jj, jj, jj, jj, jj, jj, jj, jj, jj, jj, jj, jj, jj, jj, jj, jj, jj, jj, jj, jj, jj, jj, jj, jj, jj, jj, jj, jj, jj, jj, jj, jj, jj, jj, jj, jj, jj, jj, jj, jj, jj, jj, jj, jj] [] (0 : Nat))) (path_Name_res r) (path_Name_out r))) t) h (fun t h => ?_) (fun t14 h14 K14 => ?_)
  ·
    rcases t with t_2 | t_3
    · replace h := W.inl (h)
      refine W.elimL (?_)
      exact (Option.some.inj h).symm
    · replace h := W.inr (h)
      refine W.elimR (?_)
      refine W.at 0 100000 [] [0, 15, 16] (c' := (fun (s_17 : Int) => (Cfg.mk Mode.run (headTodo Go.Proofs.Tryd.prog 14 0) (St.mk [AV.str s_1, jj, jj, jj, jj, jj, jj, jj, jj, jj, jj, jj, jj, jj, jj, AV.int IntKind.i64 (↑(List.length s_1) : Int), AV.int IntKind.i64 s_17, jj, jj, jj, jj, jj, jj, jj, jj, jj, jj, jj, jj, jj, jj, jj, jj, jj, jj, jj, jj, jj, jj, jj, jj, jj, jj, jj, jj, jj, jj, jj, jj, jj, jj, jj, jj, jj, jj] [] (0 : Nat)))) ((0 : Int))) (by kernel_rfl) ?_
      refine W.loop (fun (s_17 : Int) => (Cfg.mk Mode.run (headTodo Go.Proofs.Tryd.prog 14 0) (St.mk [AV.str s_1, jj, jj, jj, jj, jj, jj, jj, jj, jj, jj, jj, jj, jj, jj, AV.int IntKind.i64 (↑(List.length s_1) : Int), AV.int IntKind.i64 s_17, jj, jj, jj, jj, jj, jj, jj, jj, jj, jj, jj, jj, jj, jj, jj, jj, jj, jj, jj, jj, jj, jj, jj, jj, jj, jj, jj, jj, jj, jj, jj, jj, jj, jj, jj, jj, jj, jj] [] (0 : Nat)))) (fun t => (Sum.elim (fun t_10 => r = (Bool.false)) (fun t_11 => Walk Go.Proofs.Tryd.prog 14 (Cfg.mk Mode.run ((headTodo Go.Proofs.Tryd.prog 14 0).drop 3) (St.mk [jj, jj, jj, jj, jj, jj, jj, jj, jj, jj, jj, jj, jj, jj, jj, jj, jj, jj, jj, jj, jj, jj, jj, jj, jj, jj, jj, jj, jj, jj, jj, jj, jj, jj, jj, jj, jj, jj, jj, jj, jj, jj, jj, jj, jj, jj, jj, jj, jj, jj, jj, jj, jj, jj, jj] [] (0 : Nat))) (path_Name_res r) (path_Name_out r))) t) h (fun t h => ?_) (fun s_17 x13 h13 K13 => ?_)
      ·
        rcases t with t_10 | t_11
        · replace h := W.inl (h)
          refine W.elimL (?_)
          exact (Option.some.inj h).symm
        · replace h := W.inr (h)
          refine W.elimR (?_)
          exact W.retT 0 100000 h (by kernel_rfl)
      · unfold path_Name_b0 at h13
        refine W.cond 2 100000 h13 (by kernel_rfl) (fun h13 => ?_) (fun h13 => ?_)
        ·
          refine W.needT 2 100000 h13 (by kernel_rfl) (fun h13 => ?_)
          refine W.join (fun t_8 => Walk Go.Proofs.Tryd.prog 14 (Cfg.mk Mode.run (seqTodo Go.Proofs.Tryd.prog 14 11) (St.mk [AV.str s_1, jj, jj, AV.int IntKind.i64 s_17, AV.int IntKind.u8 (↑(UInt8.toNat (List.getD s_1 (Int.toNat s_17) (0 : UInt8))) : Int), AV.bool t_8, jj, jj, jj, jj, jj, jj, jj, jj, jj, AV.int IntKind.i64 (↑(List.length s_1) : Int), AV.int IntKind.i64 s_17, jj, jj, jj, jj, jj, jj, jj, jj, jj, jj, jj, jj, jj, jj, jj, jj, jj, jj, jj, jj, jj, jj, jj, jj, jj, jj, jj, jj, jj, jj, jj, jj, jj, jj, jj, jj, jj, jj] [] (0 : Nat))) (path_Name_res r) (path_Name_out r)) h13 (fun t_8 h13 => ?_) (fun t10 h10 K10 => ?_)
          ·
            refine W.cond 2 100000 h13 (by kernel_rfl) (fun h13 => ?_) (fun h13 => ?_)
            ·
              refine W.yes 2 100000 (by kernel_rfl) ?_
              refine W.yes 2 100000 (by kernel_rfl) ?_
              refine W.cond 2 100000 h13 (by kernel_rfl) (fun h13 => ?_) (fun h13 => ?_)
              ·
                refine W.yes 2 100000 (by kernel_rfl) ?_
                refine W.yes 2 100000 (by kernel_rfl) ?_
                refine W.yes 2 100000 (by kernel_rfl) ?_
                refine W.yes 2 100000 (by kernel_rfl) ?_
                refine W.yes 2 100000 (by kernel_rfl) ?_
                refine W.yes 2 100000 (by kernel_rfl) ?_
                refine W.yes 2 100000 (by kernel_rfl) ?_
                refine W.yes 2 100000 (by kernel_rfl) ?_
                refine W.yes 2 100000 (by kernel_rfl) ?_
                cases h13; exact W.retK 2 100000 K13 (by kernel_rfl)
              ·
                refine W.no 2 100000 (by kernel_rfl) ?_
                refine W.no 2 100000 (by kernel_rfl) ?_
                refine W.cond 2 100000 h13 (by kernel_rfl) (fun h13 => ?_) (fun h13 => ?_)
                ·
                  refine W.yes 2 100000 (by kernel_rfl) ?_
                  refine W.no 2 100000 (by kernel_rfl) ?_
                  refine W.yes 2 100000 (by kernel_rfl) ?_
                  refine W.no 2 100000 (by kernel_rfl) ?_
                  refine W.cond 2 100000 h13 (by kernel_rfl) (fun h13 => ?_) (fun h13 => ?_)
                  ·
                    refine W.yes 2 100000 (by kernel_rfl) ?_
                    refine W.no 2 100000 (by kernel_rfl) ?_
                    refine W.yes 2 100000 (by kernel_rfl) ?_
                    refine W.yes 2 100000 (by kernel_rfl) ?_
                    refine W.no 2 100000 (by kernel_rfl) ?_
                    refine W.yes 2 100000 (by kernel_rfl) ?_
                    refine W.cond 2 100000 h13 (by kernel_rfl) (fun h13 => ?_) (fun h13 => ?_)
                    ·
                      cases h13; exact W.retK 2 100000 K13 (by kernel_rfl)
                    ·
                      cases h13; exact W.at 2 100000 [] [0, 15, 16] (by kernel_rfl) K13
                  ·
                    refine W.no 2 100000 (by kernel_rfl) ?_
                    refine W.no 2 100000 (by kernel_rfl) ?_
                    refine W.no 2 100000 (by kernel_rfl) ?_
                    refine W.yes 2 100000 (by kernel_rfl) ?_
                    refine W.no 2 100000 (by kernel_rfl) ?_
                    refine W.yes 2 100000 (by kernel_rfl) ?_
                    refine W.no 2 100000 (by kernel_rfl) ?_
                    cases h13; exact W.at 2 100000 [] [0, 15, 16] (by kernel_rfl) K13
                ·
                  refine W.no 2 100000 (by kernel_rfl) ?_
                  refine W.no 2 100000 (by kernel_rfl) ?_
                  refine W.no 2 100000 (by kernel_rfl) ?_
                  refine W.no 2 100000 (by kernel_rfl) ?_
                  refine W.no 2 100000 (by kernel_rfl) ?_
                  refine W.no 2 100000 (by kernel_rfl) ?_
                  refine W.no 2 100000 (by kernel_rfl) ?_
                  refine W.no 2 100000 (by kernel_rfl) ?_
                  refine W.yes 2 100000 (by kernel_rfl) ?_
                  refine W.no 2 100000 (by kernel_rfl) ?_
                  refine W.yes 2 100000 (by kernel_rfl) ?_
                  refine W.no 2 100000 (by kernel_rfl) ?_
                  cases h13; exact W.at 2 100000 [] [0, 15, 16] (by kernel_rfl) K13
            ·
              refine W.no 2 100000 (by kernel_rfl) ?_
              refine W.no 2 100000 (by kernel_rfl) ?_
              refine W.no 2 100000 (by kernel_rfl) ?_
              refine W.no 2 100000 (by kernel_rfl) ?_
              refine W.no 2 100000 (by kernel_rfl) ?_
              cases h13; exact W.at 2 100000 [] [0, 15, 16] (by kernel_rfl) K13
          · refine W.next 2 3 (by kernel_rfl) ?_
            refine W.cond 6 100000 h10 (by kernel_rfl) (fun h10 => ?_) (fun h10 => ?_)
            ·
              refine W.yes 6 100000 (by kernel_rfl) ?_
              refine W.yes 6 100000 (by kernel_rfl) ?_
              refine W.cond 6 100000 h10 (by kernel_rfl) (fun h10 => ?_) (fun h10 => ?_)
              ·
                refine W.yes 6 100000 (by kernel_rfl) ?_
                refine W.yes 6 100000 (by kernel_rfl) ?_
                refine W.yes 6 100000 (by kernel_rfl) ?_
                refine W.yes 6 100000 (by kernel_rfl) ?_
                cases h10; exact W.at 6 100000 [] [0, 3, 4, 5, 15, 16] (by kernel_rfl) K10
              ·
                refine W.no 6 100000 (by kernel_rfl) ?_
                refine W.no 6 100000 (by kernel_rfl) ?_
                refine W.cond 6 100000 h10 (by kernel_rfl) (fun h10 => ?_) (fun h10 => ?_)
                ·
                  refine W.yes 6 100000 (by kernel_rfl) ?_
                  refine W.no 6 100000 (by kernel_rfl) ?_
                  refine W.yes 6 100000 (by kernel_rfl) ?_
                  refine W.no 6 100000 (by kernel_rfl) ?_
                  cases h10; exact W.at 6 100000 [] [0, 3, 4, 5, 15, 16] (by kernel_rfl) K10
                ·
                  refine W.no 6 100000 (by kernel_rfl) ?_
                  refine W.no 6 100000 (by kernel_rfl) ?_
                  refine W.no 6 100000 (by kernel_rfl) ?_
                  refine W.no 6 100000 (by kernel_rfl) ?_
                  cases h10; exact W.at 6 100000 [] [0, 3, 4, 5, 15, 16] (by kernel_rfl) K10
            ·
              refine W.no 6 100000 (by kernel_rfl) ?_
              refine W.no 6 100000 (by kernel_rfl) ?_
              refine W.no 6 100000 (by kernel_rfl) ?_
              refine W.no 6 100000 (by kernel_rfl) ?_
              refine W.no 6 100000 (by kernel_rfl) ?_
              refine W.cond 6 100000 h10 (by kernel_rfl) (fun h10 => ?_) (fun h10 => ?_)
              ·
                refine W.yes 6 100000 (by kernel_rfl) ?_
                refine W.no 6 100000 (by kernel_rfl) ?_
                refine W.yes 6 100000 (by kernel_rfl) ?_
                refine W.no 6 100000 (by kernel_rfl) ?_
                cases h10; exact W.at 6 100000 [] [0, 3, 4, 5, 15, 16] (by kernel_rfl) K10
              ·
                refine W.no 6 100000 (by kernel_rfl) ?_
                refine W.no 6 100000 (by kernel_rfl) ?_
                refine W.no 6 100000 (by kernel_rfl) ?_
                refine W.no 6 100000 (by kernel_rfl) ?_
                cases h10; exact W.at 6 100000 [] [0, 3, 4, 5, 15, 16] (by kernel_rfl) K10
        ·
          cases h13; exact W.at 2 100000 [] [] (by kernel_rfl) K13
  · refine W.next 0 5 (by kernel_rfl) ?_
    refine W.cond 1 100000 h14 (by kernel_rfl) (fun h14 => ?_) (fun h14 => ?_)
    ·
      refine W.yes 1 100000 (by kernel_rfl) ?_
      refine W.yes 1 100000 (by kernel_rfl) ?_
      refine W.yes 1 100000 (by kernel_rfl) ?_
      refine W.yes 1 100000 (by kernel_rfl) ?_
      cases h14; exact W.retK 1 100000 K14 (by kernel_rfl)
    ·
      refine W.no 1 100000 (by kernel_rfl) ?_
      refine W.no 1 100000 (by kernel_rfl) ?_
      refine W.no 1 100000 (by kernel_rfl) ?_
      refine W.cond 1 100000 h14 (by kernel_rfl) (fun h14 => ?_) (fun h14 => ?_)
      ·
        cases h14; exact W.retK 1 100000 K14 (by kernel_rfl)
      ·
        cases h14; exact W.at 1 100000 [] [0] (by kernel_rfl) K14

theorem cellarerref02_Name_con {s_19 : List UInt8} {r : Bool} (h : cellarerref02_Name s_19 = some r) : Con Go.Proofs.Tryd.prog 15 [AV.str s_19] [] (cellarerref02_Name_res r) (cellarerref02_Name_out r) := by
  refine W.con (by kernel_rfl) ?_
  unfold cellarerref02_Name at h
  refine W.at 0 100000 [] [0, 3] (c' := (fun (s_37 : Int) => (Cfg.mk Mode.run (headTodo Go.Proofs.Tryd.prog 15 0) (St.mk [AV.str s_19, jj, jj, AV.int IntKind.i64 s_37, jj, jj, jj, jj, jj, jj, jj, jj, jj, jj, jj, jj, jj, jj, jj, jj, jj, jj, jj, jj, jj, jj, jj, jj, jj, jj, jj, jj, jj, jj, jj, jj, jj, jj, jj, jj, jj, jj, jj, jj, jj, jj, jj, jj, jj, jj, jj, jj, jj, jj, jj, jj, jj, jj, jj, jj, jj, jj, jj, jj] [] (0 : Nat)))) ((0 : Int))) (by kernel_rfl) ?_
  refine W.loop (fun (s_37 : Int) => (Cfg.mk Mode.run (headTodo Go.Proofs.Tryd.prog 15 0) (St.mk [AV.str s_19, jj, jj, AV.int IntKind.i64 s_37, jj, jj, jj, jj, jj, jj, jj, jj, jj, jj, jj, jj, jj, jj, jj, jj, jj, jj, jj, jj, jj, jj, jj, jj, jj, jj, jj, jj, jj, jj, jj, jj, jj, jj, jj, jj, jj, jj, jj, jj, jj, jj, jj, jj, jj, jj, jj, jj, jj, jj, jj, jj, jj, jj, jj, jj, jj, jj, jj, jj] [] (0 : Nat)))) (fun t => (Sum.elim (fun t_31 => r = (Bool.false)) (fun t_32 => Walk Go.Proofs.Tryd.prog 15 (Cfg.mk Mode.run ((headTodo Go.Proofs.Tryd.prog 15 0).drop 3) (St.mk [AV.str s_19, jj, jj, jj, jj, jj, jj, jj, jj, jj, jj, jj, jj, jj, jj, jj, jj, jj, jj, jj, jj, jj, jj, jj, jj, jj, jj, jj, jj, jj, jj, jj, jj, jj, jj, jj, jj, jj, jj, jj, jj, jj, jj, jj, jj, jj, jj, jj, jj, jj, jj, jj, jj, jj, jj, jj, jj, jj, jj, jj, jj, jj, jj, jj] [] (0 : Nat))) (cellarerref02_Name_res r) (cellarerref02_Name_out r))) t) h (fun t h => ?_) (fun s_37 x34 h34 K34 => ?_)
  ·
    rcases t with t_31 | t_32
    · replace h := W.inl (h)
      refine W.elimL (?_)
      exact (Option.some.inj h).symm
    · replace h := W.inr (h)
      refine W.elimR (?_)
      refine W.cond 0 100000 h (by kernel_rfl) (fun h => ?_) (fun h => ?_)
      ·
        refine W.yes 0 100000 (by kernel_rfl) ?_
        refine W.yes 0 100000 (by kernel_rfl) ?_
        refine W.yes 0 100000 (by kernel_rfl) ?_
        exact W.retT 0 100000 h (by kernel_rfl)
      ·
        refine W.no 0 100000 (by kernel_rfl) ?_
        refine W.no 0 100000 (by kernel_rfl) ?_
        refine W.no 0 100000 (by kernel_rfl) ?_
        exact W.retT 0 100000 h (by kernel_rfl)
  · unfold cellarerref02_Name_b0 at h34
    refine W.cond 2 100000 h34 (by kernel_rfl) (fun h34 => ?_) (fun h34 => ?_)
    ·
      refine W.needT 2 100000 h34 (by kernel_rfl) (fun h34 => ?_)
      refine W.join (fun t_23 => Walk Go.Proofs.Tryd.prog 15 (Cfg.mk Mode.run (seqTodo Go.Proofs.Tryd.prog 15 7) (St.mk [AV.str s_19, jj, jj, AV.int IntKind.i64 s_37, AV.int IntKind.u8 (↑(UInt8.toNat (List.getD s_19 (Int.toNat s_37) (0 : UInt8))) : Int), AV.bool t_23, jj, jj, jj, jj, jj, jj, jj, jj, jj, jj, jj, jj, jj, jj, jj, jj, jj, jj, jj, jj, jj, jj, jj, jj, jj, jj, jj, jj, jj, jj, jj, jj, jj, jj, jj, jj, jj, jj, jj, jj, jj, jj, jj, jj, jj, jj, jj, jj, jj, jj, jj, jj, jj, jj, jj, jj, jj, jj] [] (0 : Nat))) (cellarerref02_Name_res r) (cellarerref02_Name_out r)) h34 (fun t_23 h34 => ?_) (fun t31 h31 K31 => ?_)
      ·
        refine W.join (fun t_25 => Walk Go.Proofs.Tryd.prog 15 (Cfg.mk Mode.run (seqTodo Go.Proofs.Tryd.prog 15 8) (St.mk [AV.str s_19, jj, jj, AV.int IntKind.i64 s_37, AV.int IntKind.u8 (↑(UInt8.toNat (List.getD s_19 (Int.toNat s_37) (0 : UInt8))) : Int), AV.bool t_23, AV.bool t_25, jj, jj, jj, jj, jj, jj, jj, jj, jj, jj, jj, jj, jj, jj, jj, jj, jj, jj, jj, jj, jj, jj, jj, jj, jj, jj, jj, jj, jj, jj, jj, jj, jj, jj, jj, jj, jj, jj, jj, jj, jj, jj, jj, jj, jj, jj, jj, jj, jj, jj, jj, jj, jj, jj, jj, jj, jj] [] (0 : Nat))) (cellarerref02_Name_res r) (cellarerref02_Name_out r)) h34 (fun t_25 h34 => ?_) (fun t30 h30 K30 => ?_)
        ·
          refine W.join (fun t_27 => Walk Go.Proofs.Tryd.prog 15 (Cfg.mk Mode.run (seqTodo Go.Proofs.Tryd.prog 15 9) (St.mk [AV.str s_19, jj, jj, AV.int IntKind.i64 s_37, jj, AV.bool t_23, AV.bool t_25, AV.bool t_27, jj, jj, jj, jj, jj, jj, jj, jj, jj, jj, jj, jj, jj, jj, jj, jj, jj, jj, jj, jj, jj, jj, jj, jj, jj, jj, jj, jj, jj, jj, jj, jj, jj, jj, jj, jj, jj, jj, jj, jj, jj, jj, jj, jj, jj, jj, jj, jj, jj, jj, jj, jj, jj, jj, jj, jj] [] (0 : Nat))) (cellarerref02_Name_res r) (cellarerref02_Name_out r)) h34 (fun t_27 h34 => ?_) (fun t29 h29 K29 => ?_)
          ·
            refine W.cond 2 100000 h34 (by kernel_rfl) (fun h34 => ?_) (fun h34 => ?_)
            ·
              refine W.yes 2 100000 (by kernel_rfl) ?_
              refine W.yes 2 100000 (by kernel_rfl) ?_
              refine W.cond 2 100000 h34 (by kernel_rfl) (fun h34 => ?_) (fun h34 => ?_)
              ·
                refine W.yes 2 100000 (by kernel_rfl) ?_
                refine W.yes 2 100000 (by kernel_rfl) ?_
                refine W.cond 2 100000 h34 (by kernel_rfl) (fun h34 => ?_) (fun h34 => ?_)
                ·
                  refine W.yes 2 100000 (by kernel_rfl) ?_
                  refine W.yes 2 100000 (by kernel_rfl) ?_
                  refine W.yes 2 100000 (by kernel_rfl) ?_
                  refine W.yes 2 100000 (by kernel_rfl) ?_
                  cases h34; exact W.retK 2 100000 K34 (by kernel_rfl)
                ·
                  refine W.no 2 100000 (by kernel_rfl) ?_
                  refine W.cond 2 100000 h34 (by kernel_rfl) (fun h34 => ?_) (fun h34 => ?_)
                  ·
                    refine W.yes 2 100000 (by kernel_rfl) ?_
                    refine W.no 2 100000 (by kernel_rfl) ?_
                    refine W.yes 2 100000 (by kernel_rfl) ?_
                    refine W.no 2 100000 (by kernel_rfl) ?_
                    refine W.cond 2 100000 h34 (by kernel_rfl) (fun h34 => ?_) (fun h34 => ?_)
                    ·
                      cases h34; exact W.retK 2 100000 K34 (by kernel_rfl)
                    ·
                      cases h34; exact W.at 2 100000 [] [0, 3] (by kernel_rfl) K34
                  ·
                    refine W.no 2 100000 (by kernel_rfl) ?_
                    refine W.no 2 100000 (by kernel_rfl) ?_
                    refine W.no 2 100000 (by kernel_rfl) ?_
                    refine W.no 2 100000 (by kernel_rfl) ?_
                    refine W.no 2 100000 (by kernel_rfl) ?_
                    cases h34; exact W.at 2 100000 [] [0, 3] (by kernel_rfl) K34
              ·
                refine W.no 2 100000 (by kernel_rfl) ?_
                refine W.no 2 100000 (by kernel_rfl) ?_
                refine W.no 2 100000 (by kernel_rfl) ?_
                refine W.no 2 100000 (by kernel_rfl) ?_
                refine W.cond 2 100000 h34 (by kernel_rfl) (fun h34 => ?_) (fun h34 => ?_)
                ·
                  refine W.yes 2 100000 (by kernel_rfl) ?_
                  refine W.no 2 100000 (by kernel_rfl) ?_
                  refine W.yes 2 100000 (by kernel_rfl) ?_
                  refine W.no 2 100000 (by kernel_rfl) ?_
                  refine W.cond 2 100000 h34 (by kernel_rfl) (fun h34 => ?_) (fun h34 => ?_)
                  ·
                    cases h34; exact W.retK 2 100000 K34 (by kernel_rfl)
                  ·
                    cases h34; exact W.at 2 100000 [] [0, 3] (by kernel_rfl) K34
                ·
                  refine W.no 2 100000 (by kernel_rfl) ?_
                  refine W.no 2 100000 (by kernel_rfl) ?_
                  refine W.no 2 100000 (by kernel_rfl) ?_
                  refine W.no 2 100000 (by kernel_rfl) ?_
                  refine W.no 2 100000 (by kernel_rfl) ?_
                  cases h34; exact W.at 2 100000 [] [0, 3] (by kernel_rfl) K34
            ·
              refine W.no 2 100000 (by kernel_rfl) ?_
              refine W.no 2 100000 (by kernel_rfl) ?_
              refine W.no 2 100000 (by kernel_rfl) ?_
              refine W.no 2 100000 (by kernel_rfl) ?_
              refine W.no 2 100000 (by kernel_rfl) ?_
              refine W.no 2 100000 (by kernel_rfl) ?_
              refine W.no 2 100000 (by kernel_rfl) ?_
              refine W.cond 2 100000 h34 (by kernel_rfl) (fun h34 => ?_) (fun h34 => ?_)
              ·
                refine W.yes 2 100000 (by kernel_rfl) ?_
                refine W.no 2 100000 (by kernel_rfl) ?_
                refine W.yes 2 100000 (by kernel_rfl) ?_
                refine W.no 2 100000 (by kernel_rfl) ?_
                refine W.cond 2 100000 h34 (by kernel_rfl) (fun h34 => ?_) (fun h34 => ?_)
                ·
                  cases h34; exact W.retK 2 100000 K34 (by kernel_rfl)
                ·
                  cases h34; exact W.at 2 100000 [] [0, 3] (by kernel_rfl) K34
              ·
                refine W.no 2 100000 (by kernel_rfl) ?_
                refine W.no 2 100000 (by kernel_rfl) ?_
                refine W.no 2 100000 (by kernel_rfl) ?_
                refine W.no 2 100000 (by kernel_rfl) ?_
                refine W.no 2 100000 (by kernel_rfl) ?_
                cases h34; exact W.at 2 100000 [] [0, 3] (by kernel_rfl) K34
          · refine W.next 2 1 (by kernel_rfl) ?_
            refine W.cond 6 100000 h29 (by kernel_rfl) (fun h29 => ?_) (fun h29 => ?_)
            ·
              refine W.yes 6 100000 (by kernel_rfl) ?_
              refine W.yes 6 100000 (by kernel_rfl) ?_
              refine W.yes 6 100000 (by kernel_rfl) ?_
              refine W.yes 6 100000 (by kernel_rfl) ?_
              refine W.yes 6 100000 (by kernel_rfl) ?_
              cases h29; exact W.at 6 100000 [] [0, 3, 5, 6, 7] (by kernel_rfl) K29
            ·
              refine W.no 6 100000 (by kernel_rfl) ?_
              refine W.no 6 100000 (by kernel_rfl) ?_
              refine W.cond 6 100000 h29 (by kernel_rfl) (fun h29 => ?_) (fun h29 => ?_)
              ·
                refine W.yes 6 100000 (by kernel_rfl) ?_
                refine W.yes 6 100000 (by kernel_rfl) ?_
                cases h29; exact W.at 6 100000 [] [0, 3, 5, 6, 7] (by kernel_rfl) K29
              ·
                refine W.no 6 100000 (by kernel_rfl) ?_
                refine W.no 6 100000 (by kernel_rfl) ?_
                cases h29; exact W.at 6 100000 [] [0, 3, 5, 6, 7] (by kernel_rfl) K29
        · refine W.next 2 1 (by kernel_rfl) ?_
          refine W.cond 6 100000 h30 (by kernel_rfl) (fun h30 => ?_) (fun h30 => ?_)
          ·
            refine W.yes 6 100000 (by kernel_rfl) ?_
            refine W.yes 6 100000 (by kernel_rfl) ?_
            cases h30; exact W.at 6 100000 [] [0, 3, 4, 5, 6] (by kernel_rfl) K30
          ·
            refine W.no 6 100000 (by kernel_rfl) ?_
            refine W.no 6 100000 (by kernel_rfl) ?_
            cases h30; exact W.at 6 100000 [] [0, 3, 4, 5, 6] (by kernel_rfl) K30
      · refine W.next 2 3 (by kernel_rfl) ?_
        refine W.cond 6 100000 h31 (by kernel_rfl) (fun h31 => ?_) (fun h31 => ?_)
        ·
          refine W.yes 6 100000 (by kernel_rfl) ?_
          refine W.yes 6 100000 (by kernel_rfl) ?_
          cases h31; exact W.at 6 100000 [] [0, 3, 4, 5] (by kernel_rfl) K31
        ·
          refine W.no 6 100000 (by kernel_rfl) ?_
          refine W.no 6 100000 (by kernel_rfl) ?_
          cases h31; exact W.at 6 100000 [] [0, 3, 4, 5] (by kernel_rfl) K31
    ·
      cases h34; exact W.at 2 100000 [] [0] (by kernel_rfl) K34

theorem cellarerref02_Under_con {dir_40 : List UInt8} {s_41 : List UInt8} {r : Bool} (h : cellarerref02_Under dir_40 s_41 = some r) : Con Go.Proofs.Tryd.prog 17 [AV.str dir_40, AV.str s_41] [] (cellarerref02_Under_res r) (cellarerref02_Under_out r) := by
  refine W.con (by kernel_rfl) ?_
  unfold cellarerref02_Under at h
  refine W.needT 0 100000 h (by kernel_rfl) (fun h => ?_)
  refine W.join (fun t_43 => Walk Go.Proofs.Tryd.prog 17 (Cfg.mk Mode.run (seqTodo Go.Proofs.Tryd.prog 17 2) (St.mk [jj, AV.str s_41, jj, jj, jj, AV.str t_43, jj, jj, jj, jj, jj, jj, jj, jj, jj, jj, jj, jj, jj, jj, jj, jj, jj, jj, jj, jj, jj, jj, jj, jj, jj, jj, jj] [] (0 : Nat))) (cellarerref02_Under_res r) (cellarerref02_Under_out r)) h (fun t_43 h => ?_) (fun t45 h45 K45 => ?_)
  ·
    refine W.cond 0 100000 h (by kernel_rfl) (fun h => ?_) (fun h => ?_)
    ·
      refine W.yes 0 100000 (by kernel_rfl) ?_
      refine W.yes 0 100000 (by kernel_rfl) ?_
      refine W.yes 0 100000 (by kernel_rfl) ?_
      refine W.needT 0 100000 h (by kernel_rfl) (fun h => ?_)
      refine W.yes 0 100000 (by kernel_rfl) ?_
      refine W.yes 0 100000 (by kernel_rfl) ?_
      refine W.yes 0 100000 (by kernel_rfl) ?_
      exact W.retT 0 100000 h (by kernel_rfl)
    ·
      refine W.no 0 100000 (by kernel_rfl) ?_
      refine W.no 0 100000 (by kernel_rfl) ?_
      refine W.no 0 100000 (by kernel_rfl) ?_
      refine W.no 0 100000 (by kernel_rfl) ?_
      refine W.no 0 100000 (by kernel_rfl) ?_
      refine W.no 0 100000 (by kernel_rfl) ?_
      exact W.retT 0 100000 h (by kernel_rfl)
  · refine W.next 0 3 (by kernel_rfl) ?_
    refine W.cond 1 100000 h45 (by kernel_rfl) (fun h45 => ?_) (fun h45 => ?_)
    ·
      refine W.yes 1 100000 (by kernel_rfl) ?_
      refine W.yes 1 100000 (by kernel_rfl) ?_
      refine W.yes 1 100000 (by kernel_rfl) ?_
      refine W.yes 1 100000 (by kernel_rfl) ?_
      refine W.needT 1 100000 h45 (by kernel_rfl) (fun h45 => ?_)
      refine W.yes 1 100000 (by kernel_rfl) ?_
      refine W.yes 1 100000 (by kernel_rfl) ?_
      refine W.cond 1 100000 h45 (by kernel_rfl) (fun h45 => ?_) (fun h45 => ?_)
      ·
        cases h45; exact W.at 1 100000 [] [1, 5] (by kernel_rfl) K45
      ·
        cases h45; exact W.at 1 100000 [] [1, 5] (by kernel_rfl) K45
    ·
      refine W.no 1 100000 (by kernel_rfl) ?_
      refine W.no 1 100000 (by kernel_rfl) ?_
      refine W.no 1 100000 (by kernel_rfl) ?_
      refine W.no 1 100000 (by kernel_rfl) ?_
      refine W.no 1 100000 (by kernel_rfl) ?_
      refine W.no 1 100000 (by kernel_rfl) ?_
      refine W.no 1 100000 (by kernel_rfl) ?_
      cases h45; exact W.at 1 100000 [] [1, 5] (by kernel_rfl) K45

theorem cellarerref02_Join_con {dir_49 : List UInt8} {name_50 : List UInt8} {r : List UInt8} (h : cellarerref02_Join dir_49 name_50 = some r) : Con Go.Proofs.Tryd.prog 27 [AV.str dir_49, AV.str name_50] [] (cellarerref02_Join_res r) (cellarerref02_Join_out r) := by
  refine W.con (by kernel_rfl) ?_
  unfold cellarerref02_Join at h
  refine W.cond 0 100000 h (by kernel_rfl) (fun h => ?_) (fun h => ?_)
  ·
    refine W.yes 0 100000 (by kernel_rfl) ?_
    refine W.yes 0 100000 (by kernel_rfl) ?_
    refine W.yes 0 100000 (by kernel_rfl) ?_
    refine W.yes 0 100000 (by kernel_rfl) ?_
    refine W.needT 0 100000 h (by kernel_rfl) (fun h => ?_)
    refine W.yes 0 100000 (by kernel_rfl) ?_
    refine W.yes 0 100000 (by kernel_rfl) ?_
    refine W.cond 0 100000 h (by kernel_rfl) (fun h => ?_) (fun h => ?_)
    ·
      refine W.needT 0 100000 h (by kernel_rfl) (fun h => ?_)
      exact W.retT 0 100000 h (by kernel_rfl)
    ·
      refine W.needT 0 100000 h (by kernel_rfl) (fun h => ?_)
      refine W.needT 0 100000 h (by kernel_rfl) (fun h => ?_)
      exact W.retT 0 100000 h (by kernel_rfl)
  ·
    refine W.no 0 100000 (by kernel_rfl) ?_
    refine W.no 0 100000 (by kernel_rfl) ?_
    refine W.no 0 100000 (by kernel_rfl) ?_
    refine W.no 0 100000 (by kernel_rfl) ?_
    refine W.no 0 100000 (by kernel_rfl) ?_
    refine W.no 0 100000 (by kernel_rfl) ?_
    refine W.no 0 100000 (by kernel_rfl) ?_
    refine W.needT 0 100000 h (by kernel_rfl) (fun h => ?_)
    refine W.needT 0 100000 h (by kernel_rfl) (fun h => ?_)
    exact W.retT 0 100000 h (by kernel_rfl)

theorem cellarerref02_Split_con {s_54 : List UInt8} {r : List UInt8 × List UInt8} (h : cellarerref02_Split s_54 = some r) : Con Go.Proofs.Tryd.prog 25 [AV.str s_54] [] (cellarerref02_Split_res r) (cellarerref02_Split_out r) := by
  refine W.con (by kernel_rfl) ?_
  unfold cellarerref02_Split at h
  refine W.at 0 100000 [] [0, 4, 5] (c' := (fun (s_65 : Int × Int) => (Cfg.mk Mode.run (headTodo Go.Proofs.Tryd.prog 25 0) (St.mk [AV.str s_54, jj, jj, jj, AV.int IntKind.i64 (Prod.fst s_65), AV.int IntKind.i64 (Prod.snd s_65), jj, jj, jj, jj, jj, jj, jj, jj, jj, jj, jj, jj, jj, jj, jj, jj, jj, jj, jj, jj, jj, jj, jj, jj, jj] [] (0 : Nat)))) ((-1 : Int), (0 : Int))) (by kernel_rfl) ?_
  refine W.loop (fun (s_65 : Int × Int) => (Cfg.mk Mode.run (headTodo Go.Proofs.Tryd.prog 25 0) (St.mk [AV.str s_54, jj, jj, jj, AV.int IntKind.i64 (Prod.fst s_65), AV.int IntKind.i64 (Prod.snd s_65), jj, jj, jj, jj, jj, jj, jj, jj, jj, jj, jj, jj, jj, jj, jj, jj, jj, jj, jj, jj, jj, jj, jj, jj, jj] [] (0 : Nat)))) (fun t_59 => Walk Go.Proofs.Tryd.prog 25 (Cfg.mk Mode.run ((headTodo Go.Proofs.Tryd.prog 25 0).drop 3) (St.mk [AV.str s_54, jj, jj, jj, AV.int IntKind.i64 t_59, jj, jj, jj, jj, jj, jj, jj, jj, jj, jj, jj, jj, jj, jj, jj, jj, jj, jj, jj, jj, jj, jj, jj, jj, jj, jj] [] (0 : Nat))) (cellarerref02_Split_res r) (cellarerref02_Split_out r)) h (fun t_59 h => ?_) (fun s_65 x61 h61 K61 => ?_)
  ·
    refine W.cond 0 100000 h (by kernel_rfl) (fun h => ?_) (fun h => ?_)
    ·
      exact W.retT 0 100000 h (by kernel_rfl)
    ·
      refine W.cond 0 100000 h (by kernel_rfl) (fun h => ?_) (fun h => ?_)
      ·
        refine W.needT 0 100000 h (by kernel_rfl) (fun h => ?_)
        exact W.retT 0 100000 h (by kernel_rfl)
      ·
        refine W.needT 0 100000 h (by kernel_rfl) (fun h => ?_)
        refine W.needT 0 100000 h (by kernel_rfl) (fun h => ?_)
        exact W.retT 0 100000 h (by kernel_rfl)
  · unfold cellarerref02_Split_b0 at h61
    refine W.cond 2 100000 h61 (by kernel_rfl) (fun h61 => ?_) (fun h61 => ?_)
    ·
      refine W.needT 2 100000 h61 (by kernel_rfl) (fun h61 => ?_)
      refine W.cond 2 100000 h61 (by kernel_rfl) (fun h61 => ?_) (fun h61 => ?_)
      ·
        cases h61; exact W.at 2 100000 [] [0, 4, 5] (by kernel_rfl) K61
      ·
        cases h61; exact W.at 2 100000 [] [0, 4, 5] (by kernel_rfl) K61
    ·
      cases h61; exact W.at 2 100000 [] [0, 4] (by kernel_rfl) K61

theorem bytealg_LastIndexByteString_con {s_70 : List UInt8} {c_71 : Int} {r : Int} (h : bytealg_LastIndexByteString s_70 c_71 = some r) : Con Go.Proofs.Tryd.prog 47 [AV.str s_70, AV.int IntKind.u8 c_71] [] (bytealg_LastIndexByteString_res r) (bytealg_LastIndexByteString_out r) := by
  refine W.con (by kernel_rfl) ?_
  unfold bytealg_LastIndexByteString at h
  refine W.at 0 100000 [] [0, 1, 5] (c' := (fun (s_82 : Int) => (Cfg.mk Mode.run (headTodo Go.Proofs.Tryd.prog 47 0) (St.mk [AV.str s_70, AV.int IntKind.u8 c_71, jj, jj, jj, AV.int IntKind.i64 s_82, jj, jj, jj, jj, jj, jj, jj, jj, jj, jj, jj, jj, jj] [] (0 : Nat)))) (IntKind.wrap IntKind.i64 ((↑(List.length s_70) : Int) - (1 : Int)))) (by kernel_rfl) ?_
  refine W.loop (fun (s_82 : Int) => (Cfg.mk Mode.run (headTodo Go.Proofs.Tryd.prog 47 0) (St.mk [AV.str s_70, AV.int IntKind.u8 c_71, jj, jj, jj, AV.int IntKind.i64 s_82, jj, jj, jj, jj, jj, jj, jj, jj, jj, jj, jj, jj, jj] [] (0 : Nat)))) (fun t => (Sum.elim (fun t_76 => r = (t_76)) (fun t_77 => Walk Go.Proofs.Tryd.prog 47 (Cfg.mk Mode.run ((headTodo Go.Proofs.Tryd.prog 47 0).drop 3) (St.mk [jj, jj, jj, jj, jj, jj, jj, jj, jj, jj, jj, jj, jj, jj, jj, jj, jj, jj, jj] [] (0 : Nat))) (bytealg_LastIndexByteString_res r) (bytealg_LastIndexByteString_out r))) t) h (fun t h => ?_) (fun s_82 x79 h79 K79 => ?_)
  ·
    rcases t with t_76 | t_77
    · replace h := W.inl (h)
      refine W.elimL (?_)
      exact (Option.some.inj h).symm
    · replace h := W.inr (h)
      refine W.elimR (?_)
      exact W.retT 0 100000 h (by kernel_rfl)
  · unfold bytealg_LastIndexByteString_b0 at h79
    refine W.cond 2 100000 h79 (by kernel_rfl) (fun h79 => ?_) (fun h79 => ?_)
    ·
      refine W.needT 2 100000 h79 (by kernel_rfl) (fun h79 => ?_)
      refine W.cond 2 100000 h79 (by kernel_rfl) (fun h79 => ?_) (fun h79 => ?_)
      ·
        cases h79; exact W.retK 2 100000 K79 (by kernel_rfl)
      ·
        cases h79; exact W.at 2 100000 [] [0, 1, 5] (by kernel_rfl) K79
    ·
      cases h79; exact W.at 2 100000 [] [] (by kernel_rfl) K79

theorem strings_LastIndexByte_con {s_68 : List UInt8} {c_69 : Int} {r : Int} (h : strings_LastIndexByte s_68 c_69 = some r) : Con Go.Proofs.Tryd.prog 36 [AV.str s_68, AV.int IntKind.u8 c_69] [] (strings_LastIndexByte_res r) (strings_LastIndexByte_out r) := by
  refine W.con (by kernel_rfl) ?_
  unfold strings_LastIndexByte at h
  refine W.bind h fun a_83 ha_83 h => ?_
  refine W.call 0 100000 (by kernel_rfl) (bytealg_LastIndexByteString_con ha_83) (by kernel_rfl) ?_
  exact W.retT 0 100000 h (by kernel_rfl)

theorem path_Split_con {s_67 : List UInt8} {r : List UInt8 × List UInt8} (h : path_Split s_67 = some r) : Con Go.Proofs.Tryd.prog 24 [AV.str s_67] [] (path_Split_res r) (path_Split_out r) := by
  refine W.con (by kernel_rfl) ?_
  unfold path_Split at h
  refine W.bind h fun a_86 ha_86 h => ?_
  refine W.call 0 100000 (by kernel_rfl) (strings_LastIndexByte_con ha_86) (by kernel_rfl) ?_
  refine W.cond 0 100000 h (by kernel_rfl) (fun h => ?_) (fun h => ?_)
  ·
    exact W.retT 0 100000 h (by kernel_rfl)
  ·
    refine W.cond 0 100000 h (by kernel_rfl) (fun h => ?_) (fun h => ?_)
    ·
      refine W.needT 0 100000 h (by kernel_rfl) (fun h => ?_)
      exact W.retT 0 100000 h (by kernel_rfl)
    ·
      refine W.needT 0 100000 h (by kernel_rfl) (fun h => ?_)
      refine W.needT 0 100000 h (by kernel_rfl) (fun h => ?_)
      exact W.retT 0 100000 h (by kernel_rfl)

theorem cellarerref02_Same_con {a_92 : List (List UInt8)} {b_93 : List (List UInt8)} {r : Bool} (h : cellarerref02_Same a_92 b_93 = some r) : Con Go.Proofs.Tryd.prog 19 [AV.list Ty.str a_92 Bool.false, AV.list Ty.str b_93 Bool.false] [] (cellarerref02_Same_res r) (cellarerref02_Same_out r) := by
  refine W.con (by kernel_rfl) ?_
  unfold cellarerref02_Same at h
  refine W.cond 0 100000 h (by kernel_rfl) (fun h => ?_) (fun h => ?_)
  ·
    exact W.retT 0 100000 h (by kernel_rfl)
  ·
    refine W.at 0 100000 [] [0, 1, 5] (c' := (fun (s_103 : Int) => (Cfg.mk Mode.run (headTodo Go.Proofs.Tryd.prog 19 0) (St.mk [AV.list Ty.str a_92 Bool.false, AV.list Ty.str b_93 Bool.false, jj, jj, jj, AV.int IntKind.i64 s_103, jj, jj, jj, jj, jj, jj, jj, jj, jj, jj, jj, jj, jj, jj, jj, jj, jj, jj, jj, jj] [] (0 : Nat)))) ((0 : Int))) (by kernel_rfl) ?_
    refine W.loop (fun (s_103 : Int) => (Cfg.mk Mode.run (headTodo Go.Proofs.Tryd.prog 19 0) (St.mk [AV.list Ty.str a_92 Bool.false, AV.list Ty.str b_93 Bool.false, jj, jj, jj, AV.int IntKind.i64 s_103, jj, jj, jj, jj, jj, jj, jj, jj, jj, jj, jj, jj, jj, jj, jj, jj, jj, jj, jj, jj] [] (0 : Nat)))) (fun t => (Sum.elim (fun t_97 => r = (Bool.false)) (fun t_98 => Walk Go.Proofs.Tryd.prog 19 (Cfg.mk Mode.run ((headTodo Go.Proofs.Tryd.prog 19 0).drop 3) (St.mk [jj, jj, jj, jj, jj, jj, jj, jj, jj, jj, jj, jj, jj, jj, jj, jj, jj, jj, jj, jj, jj, jj, jj, jj, jj, jj] [] (0 : Nat))) (cellarerref02_Same_res r) (cellarerref02_Same_out r))) t) h (fun t h => ?_) (fun s_103 x100 h100 K100 => ?_)
    ·
      rcases t with t_97 | t_98
      · replace h := W.inl (h)
        refine W.elimL (?_)
        exact (Option.some.inj h).symm
      · replace h := W.inr (h)
        refine W.elimR (?_)
        exact W.retT 0 100000 h (by kernel_rfl)
    · unfold cellarerref02_Same_b0 at h100
      refine W.cond 2 100000 h100 (by kernel_rfl) (fun h100 => ?_) (fun h100 => ?_)
      ·
        refine W.needT 2 100000 h100 (by kernel_rfl) (fun h100 => ?_)
        refine W.needT 2 100000 h100 (by kernel_rfl) (fun h100 => ?_)
        refine W.cond 2 100000 h100 (by kernel_rfl) (fun h100 => ?_) (fun h100 => ?_)
        ·
          cases h100; exact W.retK 2 100000 K100 (by kernel_rfl)
        ·
          cases h100; exact W.at 2 100000 [] [0, 1, 5] (by kernel_rfl) K100
      ·
        cases h100; exact W.at 2 100000 [] [] (by kernel_rfl) K100

theorem cellarerref02_Parts_con {s_105 : List UInt8} {r : List (List UInt8)} (h : cellarerref02_Parts s_105 = some r) : Con Go.Proofs.Tryd.prog 21 [AV.str s_105] [] (cellarerref02_Parts_res r) (cellarerref02_Parts_out r) := by
  refine W.con (by kernel_rfl) ?_
  unfold cellarerref02_Parts at h
  refine W.at 0 100000 [Co.own 3 (Ty.str)] [0, 3, 4, 5] (c' := (fun (s_120 : List UInt8 × Int × List (List UInt8)) => (Cfg.mk Mode.run (headTodo Go.Proofs.Tryd.prog 21 0) (St.mk [AV.str s_105, jj, jj, AV.view (0 : Nat) (0 : Nat) Option.none, AV.str (Prod.fst s_120), AV.int IntKind.i64 (Prod.fst (Prod.snd s_120)), jj, jj, jj, jj, jj, jj, jj, jj, jj, jj, jj, jj, jj, jj, jj, jj, jj, jj, jj, jj, jj, jj, jj, jj, jj, jj, jj, jj, jj, jj] [AO.row Ty.str (Prod.snd (Prod.snd s_120))] (0 : Nat)))) ([], (0 : Int), [])) (by kernel_rfl) ?_
  refine W.loop (fun (s_120 : List UInt8 × Int × List (List UInt8)) => (Cfg.mk Mode.run (headTodo Go.Proofs.Tryd.prog 21 0) (St.mk [AV.str s_105, jj, jj, AV.view (0 : Nat) (0 : Nat) Option.none, AV.str (Prod.fst s_120), AV.int IntKind.i64 (Prod.fst (Prod.snd s_120)), jj, jj, jj, jj, jj, jj, jj, jj, jj, jj, jj, jj, jj, jj, jj, jj, jj, jj, jj, jj, jj, jj, jj, jj, jj, jj, jj, jj, jj, jj] [AO.row Ty.str (Prod.snd (Prod.snd s_120))] (0 : Nat)))) (fun t_115 => Walk Go.Proofs.Tryd.prog 21 (Cfg.mk Mode.run ((headTodo Go.Proofs.Tryd.prog 21 0).drop 3) (St.mk [jj, jj, jj, AV.view (0 : Nat) (0 : Nat) Option.none, AV.str (Prod.fst t_115), jj, jj, jj, jj, jj, jj, jj, jj, jj, jj, jj, jj, jj, jj, jj, jj, jj, jj, jj, jj, jj, jj, jj, jj, jj, jj, jj, jj, jj, jj, jj] [AO.row Ty.str (Prod.snd t_115)] (0 : Nat))) (cellarerref02_Parts_res r) (cellarerref02_Parts_out r)) h (fun t_115 h => ?_) (fun s_120 x117 h117 K117 => ?_)
  ·
    refine W.cond 0 100000 h (by kernel_rfl) (fun h => ?_) (fun h => ?_)
    ·
      refine W.needT 0 100000 h (by kernel_rfl) (fun h => ?_)
      exact W.retT 0 100000 h (by kernel_rfl)
    ·
      exact W.retT 0 100000 h (by kernel_rfl)
  · unfold cellarerref02_Parts_b0 at h117
    refine W.cond 2 100000 h117 (by kernel_rfl) (fun h117 => ?_) (fun h117 => ?_)
    ·
      refine W.needT 2 100000 h117 (by kernel_rfl) (fun h117 => ?_)
      refine W.cond 2 100000 h117 (by kernel_rfl) (fun h117 => ?_) (fun h117 => ?_)
      ·
        refine W.needT 2 100000 h117 (by kernel_rfl) (fun h117 => ?_)
        refine W.needT 2 100000 h117 (by kernel_rfl) (fun h117 => ?_)
        cases h117; exact W.at 2 100000 [Co.own 3 (Ty.str)] [0, 3, 4, 5] (by kernel_rfl) K117
      ·
        refine W.cond 2 100000 h117 (by kernel_rfl) (fun h117 => ?_) (fun h117 => ?_)
        ·
          refine W.needT 2 100000 h117 (by kernel_rfl) (fun h117 => ?_)
          cases h117; exact W.at 2 100000 [Co.own 3 (Ty.str)] [0, 3, 4, 5] (by kernel_rfl) K117
        ·
          cases h117; exact W.at 2 100000 [Co.own 3 (Ty.str)] [0, 3, 4, 5] (by kernel_rfl) K117
    ·
      cases h117; exact W.at 2 100000 [] [3, 4] (by kernel_rfl) K117

theorem cellarerref02_Joined_con {l_126 : List (List UInt8)} {r : List UInt8} (h : cellarerref02_Joined l_126 = some r) : Con Go.Proofs.Tryd.prog 23 [AV.list Ty.str l_126 Bool.false] [] (cellarerref02_Joined_res r) (cellarerref02_Joined_out r) := by
  refine W.con (by kernel_rfl) ?_
  unfold cellarerref02_Joined at h
  refine W.cond 0 100000 h (by kernel_rfl) (fun h => ?_) (fun h => ?_)
  ·
    exact W.retT 0 100000 h (by kernel_rfl)
  ·
    refine W.at 0 100000 [] [0, 3, 4] (c' := (fun (s_136 : List UInt8 × Int) => (Cfg.mk Mode.run (headTodo Go.Proofs.Tryd.prog 23 0) (St.mk [AV.list Ty.str l_126 Bool.false, jj, jj, AV.str (Prod.fst s_136), AV.int IntKind.i64 (Prod.snd s_136), jj, jj, jj, jj, jj, jj, jj, jj, jj, jj, jj, jj, jj, jj, jj, jj, jj] [] (0 : Nat)))) ([], (0 : Int))) (by kernel_rfl) ?_
    refine W.loop (fun (s_136 : List UInt8 × Int) => (Cfg.mk Mode.run (headTodo Go.Proofs.Tryd.prog 23 0) (St.mk [AV.list Ty.str l_126 Bool.false, jj, jj, AV.str (Prod.fst s_136), AV.int IntKind.i64 (Prod.snd s_136), jj, jj, jj, jj, jj, jj, jj, jj, jj, jj, jj, jj, jj, jj, jj, jj, jj] [] (0 : Nat)))) (fun t_131 => Walk Go.Proofs.Tryd.prog 23 (Cfg.mk Mode.run ((headTodo Go.Proofs.Tryd.prog 23 0).drop 3) (St.mk [jj, jj, jj, AV.str t_131, jj, jj, jj, jj, jj, jj, jj, jj, jj, jj, jj, jj, jj, jj, jj, jj, jj, jj] [] (0 : Nat))) (cellarerref02_Joined_res r) (cellarerref02_Joined_out r)) h (fun t_131 h => ?_) (fun s_136 x133 h133 K133 => ?_)
    ·
      exact W.retT 0 100000 h (by kernel_rfl)
    · unfold cellarerref02_Joined_b0 at h133
      refine W.cond 2 100000 h133 (by kernel_rfl) (fun h133 => ?_) (fun h133 => ?_)
      ·
        refine W.needT 2 100000 h133 (by kernel_rfl) (fun h133 => ?_)
        refine W.needT 2 100000 h133 (by kernel_rfl) (fun h133 => ?_)
        refine W.needT 2 100000 h133 (by kernel_rfl) (fun h133 => ?_)
        cases h133; exact W.at 2 100000 [] [0, 3, 4] (by kernel_rfl) K133
      ·
        cases h133; exact W.at 2 100000 [] [3] (by kernel_rfl) K133

theorem cellarerref02_Parents_con {s_122 : List UInt8} {r : List (List UInt8)} (h : cellarerref02_Parents s_122 = some r) : Con Go.Proofs.Tryd.prog 22 [AV.str s_122] [] (cellarerref02_Parents_res r) (cellarerref02_Parents_out r) := by
  refine W.con (by kernel_rfl) ?_
  unfold cellarerref02_Parents at h
  refine W.bind h fun a_123 ha_123 h => ?_
  refine W.call 0 100000 (by kernel_rfl) (cellarerref02_Parts_con ha_123) (by kernel_rfl) ?_
  refine W.at 0 100000 [Co.own 4 (Ty.str)] [3, 4, 5] (c' := (fun (s_148 : Int × List (List UInt8)) => (Cfg.mk Mode.run (headTodo Go.Proofs.Tryd.prog 22 0) (St.mk [jj, jj, jj, AV.view (0 : Nat) (0 : Nat) Option.none, AV.view (1 : Nat) (0 : Nat) Option.none, AV.int IntKind.i64 (Prod.fst s_148), jj, jj, jj, jj, jj, jj, jj, jj, jj, jj, jj, jj, jj, jj, jj, jj] [AO.row Ty.str a_123, AO.row Ty.str (Prod.snd s_148)] (0 : Nat)))) ((0 : Int), [])) (by kernel_rfl) ?_
  refine W.loop (fun (s_148 : Int × List (List UInt8)) => (Cfg.mk Mode.run (headTodo Go.Proofs.Tryd.prog 22 0) (St.mk [jj, jj, jj, AV.view (0 : Nat) (0 : Nat) Option.none, AV.view (1 : Nat) (0 : Nat) Option.none, AV.int IntKind.i64 (Prod.fst s_148), jj, jj, jj, jj, jj, jj, jj, jj, jj, jj, jj, jj, jj, jj, jj, jj] [AO.row Ty.str a_123, AO.row Ty.str (Prod.snd s_148)] (0 : Nat)))) (fun t_143 => Walk Go.Proofs.Tryd.prog 22 (Cfg.mk Mode.run ((headTodo Go.Proofs.Tryd.prog 22 0).drop 3) (St.mk [jj, jj, jj, jj, AV.view (0 : Nat) (0 : Nat) Option.none, jj, jj, jj, jj, jj, jj, jj, jj, jj, jj, jj, jj, jj, jj, jj, jj, jj] [AO.row Ty.str t_143] (0 : Nat))) (cellarerref02_Parents_res r) (cellarerref02_Parents_out r)) h (fun t_143 h => ?_) (fun s_148 x145 h145 K145 => ?_)
  ·
    exact W.retT 0 100000 h (by kernel_rfl)
  · unfold cellarerref02_Parents_b0 at h145
    refine W.cond 2 100000 h145 (by kernel_rfl) (fun h145 => ?_) (fun h145 => ?_)
    ·
      refine W.needT 2 100000 h145 (by kernel_rfl) (fun h145 => ?_)
      refine W.bind h145 fun a_141 ha_141 h145 => ?_
      refine W.call 2 100000 (by kernel_rfl) (cellarerref02_Joined_con ha_141) (by kernel_rfl) ?_
      refine W.needT 2 100000 h145 (by kernel_rfl) (fun h145 => ?_)
      cases h145; exact W.at 2 100000 [Co.own 4 (Ty.str)] [3, 4, 5] (by kernel_rfl) K145
    ·
      cases h145; exact W.at 2 100000 [] [4] (by kernel_rfl) K145

theorem cellarerref02_Clean_con {s_151 : List UInt8} {r : List UInt8 × Int} (h : cellarerref02_Clean s_151 = some r) : Con Go.Proofs.Tryd.prog 11 [AV.str s_151] [] (cellarerref02_Clean_res r) (cellarerref02_Clean_out r) := by
  refine W.con (by kernel_rfl) ?_
  unfold cellarerref02_Clean at h
  refine W.join (fun t => (Sum.elim (fun t_152 => r = ([], (1 : Int))) (fun t_153 => Walk Go.Proofs.Tryd.prog 11 (Cfg.mk Mode.run (seqTodo Go.Proofs.Tryd.prog 11 1) (St.mk [AV.str s_151, jj, jj, jj, jj, jj, jj, jj, jj, jj, jj, jj, jj, jj, jj, jj, jj, jj, jj, jj, jj, jj, jj, jj, jj, jj, jj, jj, jj, jj, jj, jj, jj, jj, jj, jj, jj, jj, jj, jj, jj, jj, jj, jj, jj, jj, jj, jj, jj, jj, jj, jj, jj, jj, jj, jj, jj, jj, jj, jj, jj, jj, jj, jj, jj, jj, jj, jj, jj, jj, jj, jj] [] (0 : Nat))) (cellarerref02_Clean_res r) (cellarerref02_Clean_out r))) t) h (fun t h => ?_) (fun t170 h170 K170 => ?_)
  ·
    rcases t with t_152 | t_153
    · replace h := W.inl (h)
      refine W.elimL (?_)
      exact (Option.some.inj h).symm
    · replace h := W.inr (h)
      refine W.elimR (?_)
      refine W.at 0 100000 [] [0, 4] (c' := (fun (s_175 : Int) => (Cfg.mk Mode.run (headTodo Go.Proofs.Tryd.prog 11 0) (St.mk [AV.str s_151, jj, jj, jj, AV.int IntKind.i64 s_175, jj, jj, jj, jj, jj, jj, jj, jj, jj, jj, jj, jj, jj, jj, jj, jj, jj, jj, jj, jj, jj, jj, jj, jj, jj, jj, jj, jj, jj, jj, jj, jj, jj, jj, jj, jj, jj, jj, jj, jj, jj, jj, jj, jj, jj, jj, jj, jj, jj, jj, jj, jj, jj, jj, jj, jj, jj, jj, jj, jj, jj, jj, jj, jj, jj, jj, jj] [] (0 : Nat)))) ((0 : Int))) (by kernel_rfl) ?_
      refine W.loop (fun (s_175 : Int) => (Cfg.mk Mode.run (headTodo Go.Proofs.Tryd.prog 11 0) (St.mk [AV.str s_151, jj, jj, jj, AV.int IntKind.i64 s_175, jj, jj, jj, jj, jj, jj, jj, jj, jj, jj, jj, jj, jj, jj, jj, jj, jj, jj, jj, jj, jj, jj, jj, jj, jj, jj, jj, jj, jj, jj, jj, jj, jj, jj, jj, jj, jj, jj, jj, jj, jj, jj, jj, jj, jj, jj, jj, jj, jj, jj, jj, jj, jj, jj, jj, jj, jj, jj, jj, jj, jj, jj, jj, jj, jj, jj, jj] [] (0 : Nat)))) (fun t => (Sum.elim (fun t_156 => r = ([], (1 : Int))) (fun t_157 => Walk Go.Proofs.Tryd.prog 11 (Cfg.mk Mode.run ((headTodo Go.Proofs.Tryd.prog 11 0).drop 3) (St.mk [AV.str s_151, jj, jj, jj, jj, jj, jj, jj, jj, jj, jj, jj, jj, jj, jj, jj, jj, jj, jj, jj, jj, jj, jj, jj, jj, jj, jj, jj, jj, jj, jj, jj, jj, jj, jj, jj, jj, jj, jj, jj, jj, jj, jj, jj, jj, jj, jj, jj, jj, jj, jj, jj, jj, jj, jj, jj, jj, jj, jj, jj, jj, jj, jj, jj, jj, jj, jj, jj, jj, jj, jj, jj] [] (0 : Nat))) (cellarerref02_Clean_res r) (cellarerref02_Clean_out r))) t) h (fun t h => ?_) (fun s_175 x169 h169 K169 => ?_)
      ·
        rcases t with t_156 | t_157
        · replace h := W.inl (h)
          refine W.elimL (?_)
          exact (Option.some.inj h).symm
        · replace h := W.inr (h)
          refine W.elimR (?_)
          refine W.bind h fun a_158 ha_158 h => ?_
          refine W.call 0 100000 (by kernel_rfl) (cellarerref02_Parts_con ha_158) (by kernel_rfl) ?_
          refine W.at 0 100000 [Co.own 6 (Ty.str)] [5, 6, 7] (c' := (fun (s_176 : Int × List (List UInt8)) => (Cfg.mk Mode.run (headTodo Go.Proofs.Tryd.prog 11 1) (St.mk [jj, jj, jj, jj, jj, AV.view (0 : Nat) (0 : Nat) Option.none, AV.view (1 : Nat) (0 : Nat) Option.none, AV.int IntKind.i64 (Prod.fst s_176), jj, jj, jj, jj, jj, jj, jj, jj, jj, jj, jj, jj, jj, jj, jj, jj, jj, jj, jj, jj, jj, jj, jj, jj, jj, jj, jj, jj, jj, jj, jj, jj, jj, jj, jj, jj, jj, jj, jj, jj, jj, jj, jj, jj, jj, jj, jj, jj, jj, jj, jj, jj, jj, jj, jj, jj, jj, jj, jj, jj, jj, jj, jj, jj] [AO.row Ty.str a_158, AO.row Ty.str (Prod.snd s_176)] (0 : Nat)))) ((0 : Int), [])) (by kernel_rfl) ?_
          refine W.loop (fun (s_176 : Int × List (List UInt8)) => (Cfg.mk Mode.run (headTodo Go.Proofs.Tryd.prog 11 1) (St.mk [jj, jj, jj, jj, jj, AV.view (0 : Nat) (0 : Nat) Option.none, AV.view (1 : Nat) (0 : Nat) Option.none, AV.int IntKind.i64 (Prod.fst s_176), jj, jj, jj, jj, jj, jj, jj, jj, jj, jj, jj, jj, jj, jj, jj, jj, jj, jj, jj, jj, jj, jj, jj, jj, jj, jj, jj, jj, jj, jj, jj, jj, jj, jj, jj, jj, jj, jj, jj, jj, jj, jj, jj, jj, jj, jj, jj, jj, jj, jj, jj, jj, jj, jj, jj, jj, jj, jj, jj, jj, jj, jj, jj, jj] [AO.row Ty.str a_158, AO.row Ty.str (Prod.snd s_176)] (0 : Nat)))) (fun t_165 => Walk Go.Proofs.Tryd.prog 11 (Cfg.mk Mode.run ((headTodo Go.Proofs.Tryd.prog 11 1).drop 3) (St.mk [jj, jj, jj, jj, jj, jj, AV.view (0 : Nat) (0 : Nat) Option.none, jj, jj, jj, jj, jj, jj, jj, jj, jj, jj, jj, jj, jj, jj, jj, jj, jj, jj, jj, jj, jj, jj, jj, jj, jj, jj, jj, jj, jj, jj, jj, jj, jj, jj, jj, jj, jj, jj, jj, jj, jj, jj, jj, jj, jj, jj, jj, jj, jj, jj, jj, jj, jj, jj, jj, jj, jj, jj, jj, jj, jj, jj, jj, jj, jj] [AO.row Ty.str t_165] (0 : Nat))) (cellarerref02_Clean_res r) (cellarerref02_Clean_out r)) h (fun t_165 h => ?_) (fun s_176 x168 h168 K168 => ?_)
          ·
            refine W.bind h fun a_166 ha_166 h => ?_
            refine W.call 0 100000 (by kernel_rfl) (cellarerref02_Joined_con ha_166) (by kernel_rfl) ?_
            refine W.cond 0 100000 h (by kernel_rfl) (fun h => ?_) (fun h => ?_)
            ·
              exact W.retT 0 100000 h (by kernel_rfl)
            ·
              exact W.retT 0 100000 h (by kernel_rfl)
          · unfold cellarerref02_Clean_b1 at h168
            refine W.cond 2 100000 h168 (by kernel_rfl) (fun h168 => ?_) (fun h168 => ?_)
            ·
              refine W.needT 2 100000 h168 (by kernel_rfl) (fun h168 => ?_)
              refine W.needT 2 100000 h168 (by kernel_rfl) (fun h168 => ?_)
              refine W.cond 2 100000 h168 (by kernel_rfl) (fun h168 => ?_) (fun h168 => ?_)
              ·
                refine W.cond 2 100000 h168 (by kernel_rfl) (fun h168 => ?_) (fun h168 => ?_)
                ·
                  refine W.needT 2 100000 h168 (by kernel_rfl) (fun h168 => ?_)
                  cases h168; exact W.at 2 100000 [Co.own 6 (Ty.str)] [5, 6, 7] (by kernel_rfl) K168
                ·
                  cases h168; exact W.at 2 100000 [Co.own 6 (Ty.str)] [5, 6, 7] (by kernel_rfl) K168
              ·
                refine W.needT 2 100000 h168 (by kernel_rfl) (fun h168 => ?_)
                refine W.needT 2 100000 h168 (by kernel_rfl) (fun h168 => ?_)
                refine W.cond 2 100000 h168 (by kernel_rfl) (fun h168 => ?_) (fun h168 => ?_)
                ·
                  refine W.needT 2 100000 h168 (by kernel_rfl) (fun h168 => ?_)
                  refine W.needT 2 100000 h168 (by kernel_rfl) (fun h168 => ?_)
                  refine W.needT 2 100000 h168 (by kernel_rfl) (fun h168 => ?_)
                  cases h168; exact W.at 2 100000 [Co.own 6 (Ty.str)] [5, 6, 7] (by kernel_rfl) K168
                ·
                  cases h168; exact W.at 2 100000 [Co.own 6 (Ty.str)] [5, 6, 7] (by kernel_rfl) K168
            ·
              cases h168; exact W.at 2 100000 [] [6] (by kernel_rfl) K168
      · unfold cellarerref02_Clean_b0 at h169
        refine W.cond 2 100000 h169 (by kernel_rfl) (fun h169 => ?_) (fun h169 => ?_)
        ·
          refine W.needT 2 100000 h169 (by kernel_rfl) (fun h169 => ?_)
          refine W.cond 2 100000 h169 (by kernel_rfl) (fun h169 => ?_) (fun h169 => ?_)
          ·
            refine W.yes 2 100000 (by kernel_rfl) ?_
            refine W.yes 2 100000 (by kernel_rfl) ?_
            refine W.yes 2 100000 (by kernel_rfl) ?_
            refine W.yes 2 100000 (by kernel_rfl) ?_
            refine W.yes 2 100000 (by kernel_rfl) ?_
            cases h169; exact W.retK 2 100000 K169 (by kernel_rfl)
          ·
            refine W.no 2 100000 (by kernel_rfl) ?_
            refine W.no 2 100000 (by kernel_rfl) ?_
            refine W.needT 2 100000 h169 (by kernel_rfl) (fun h169 => ?_)
            refine W.no 2 100000 (by kernel_rfl) ?_
            refine W.no 2 100000 (by kernel_rfl) ?_
            refine W.cond 2 100000 h169 (by kernel_rfl) (fun h169 => ?_) (fun h169 => ?_)
            ·
              cases h169; exact W.retK 2 100000 K169 (by kernel_rfl)
            ·
              cases h169; exact W.at 2 100000 [] [0, 4] (by kernel_rfl) K169
        ·
          cases h169; exact W.at 2 100000 [] [0] (by kernel_rfl) K169
  · refine W.next 0 6 (by kernel_rfl) ?_
    refine W.cond 1 100000 h170 (by kernel_rfl) (fun h170 => ?_) (fun h170 => ?_)
    ·
      refine W.yes 1 100000 (by kernel_rfl) ?_
      refine W.yes 1 100000 (by kernel_rfl) ?_
      refine W.yes 1 100000 (by kernel_rfl) ?_
      refine W.yes 1 100000 (by kernel_rfl) ?_
      cases h170; exact W.retK 1 100000 K170 (by kernel_rfl)
    ·
      refine W.no 1 100000 (by kernel_rfl) ?_
      refine W.needT 1 100000 h170 (by kernel_rfl) (fun h170 => ?_)
      refine W.no 1 100000 (by kernel_rfl) ?_
      refine W.no 1 100000 (by kernel_rfl) ?_
      refine W.cond 1 100000 h170 (by kernel_rfl) (fun h170 => ?_) (fun h170 => ?_)
      ·
        cases h170; exact W.retK 1 100000 K170 (by kernel_rfl)
      ·
        cases h170; exact W.at 1 100000 [] [0] (by kernel_rfl) K170

theorem cellarerref02_Right_con {s_178 : List UInt8} {r : Bool} (h : cellarerref02_Right s_178 = some r) : Con Go.Proofs.Tryd.prog 13 [AV.str s_178] [] (cellarerref02_Right_res r) (cellarerref02_Right_out r) := by
  refine W.con (by kernel_rfl) ?_
  unfold cellarerref02_Right at h
  refine W.bind h fun a_179 ha_179 h => ?_
  refine W.call 0 100000 (by kernel_rfl) (cellarerref02_Clean_con ha_179) (by kernel_rfl) ?_
  refine W.cond 0 100000 h (by kernel_rfl) (fun h => ?_) (fun h => ?_)
  ·
    refine W.yes 0 100000 (by kernel_rfl) ?_
    refine W.yes 0 100000 (by kernel_rfl) ?_
    refine W.yes 0 100000 (by kernel_rfl) ?_
    exact W.retT 0 100000 h (by kernel_rfl)
  ·
    refine W.no 0 100000 (by kernel_rfl) ?_
    refine W.no 0 100000 (by kernel_rfl) ?_
    refine W.no 0 100000 (by kernel_rfl) ?_
    exact W.retT 0 100000 h (by kernel_rfl)

theorem cellarerref02_Has_con {l_190 : List (List UInt8)} {s_191 : List UInt8} {r : Bool} (h : cellarerref02_Has l_190 s_191 = some r) : Con Go.Proofs.Tryd.prog 41 [AV.list Ty.str l_190 Bool.false, AV.str s_191] [] (cellarerref02_Has_res r) (cellarerref02_Has_out r) := by
  refine W.con (by kernel_rfl) ?_
  unfold cellarerref02_Has at h
  refine W.at 0 100000 [] [0, 1, 5] (c' := (fun (s_201 : Int) => (Cfg.mk Mode.run (headTodo Go.Proofs.Tryd.prog 41 0) (St.mk [AV.list Ty.str l_190 Bool.false, AV.str s_191, jj, jj, jj, AV.int IntKind.i64 s_201, jj, jj, jj, jj, jj, jj, jj, jj, jj, jj, jj, jj] [] (0 : Nat)))) ((0 : Int))) (by kernel_rfl) ?_
  refine W.loop (fun (s_201 : Int) => (Cfg.mk Mode.run (headTodo Go.Proofs.Tryd.prog 41 0) (St.mk [AV.list Ty.str l_190 Bool.false, AV.str s_191, jj, jj, jj, AV.int IntKind.i64 s_201, jj, jj, jj, jj, jj, jj, jj, jj, jj, jj, jj, jj] [] (0 : Nat)))) (fun t => (Sum.elim (fun t_195 => r = (Bool.true)) (fun t_196 => Walk Go.Proofs.Tryd.prog 41 (Cfg.mk Mode.run ((headTodo Go.Proofs.Tryd.prog 41 0).drop 3) (St.mk [jj, jj, jj, jj, jj, jj, jj, jj, jj, jj, jj, jj, jj, jj, jj, jj, jj, jj] [] (0 : Nat))) (cellarerref02_Has_res r) (cellarerref02_Has_out r))) t) h (fun t h => ?_) (fun s_201 x198 h198 K198 => ?_)
  ·
    rcases t with t_195 | t_196
    · replace h := W.inl (h)
      refine W.elimL (?_)
      exact (Option.some.inj h).symm
    · replace h := W.inr (h)
      refine W.elimR (?_)
      exact W.retT 0 100000 h (by kernel_rfl)
  · unfold cellarerref02_Has_b0 at h198
    refine W.cond 2 100000 h198 (by kernel_rfl) (fun h198 => ?_) (fun h198 => ?_)
    ·
      refine W.needT 2 100000 h198 (by kernel_rfl) (fun h198 => ?_)
      refine W.cond 2 100000 h198 (by kernel_rfl) (fun h198 => ?_) (fun h198 => ?_)
      ·
        cases h198; exact W.retK 2 100000 K198 (by kernel_rfl)
      ·
        cases h198; exact W.at 2 100000 [] [0, 1, 5] (by kernel_rfl) K198
    ·
      cases h198; exact W.at 2 100000 [] [] (by kernel_rfl) K198

theorem cellarerref02_Sorted_con {l_183 : List (List UInt8)} {r : List (List UInt8)} (h : cellarerref02_Sorted l_183 = some r) : Con Go.Proofs.Tryd.prog 29 [AV.list Ty.str l_183 Bool.false] [] (cellarerref02_Sorted_res r) (cellarerref02_Sorted_out r) := by
  refine W.con (by kernel_rfl) ?_
  unfold cellarerref02_Sorted at h
  refine W.at 0 100000 [Co.own 3 (Ty.str)] [0, 3, 4] (c' := (fun (s_225 : Int × List (List UInt8)) => (Cfg.mk Mode.run (headTodo Go.Proofs.Tryd.prog 29 0) (St.mk [AV.list Ty.str l_183 Bool.false, jj, jj, AV.view (0 : Nat) (0 : Nat) Option.none, AV.int IntKind.i64 (Prod.fst s_225), jj, jj, jj, jj, jj, jj, jj, jj, jj, jj, jj, jj, jj, jj, jj, jj, jj, jj, jj, jj, jj, jj, jj, jj, jj, jj, jj, jj, jj, jj, jj, jj, jj, jj, jj, jj, jj, jj, jj, jj, jj, jj, jj, jj, jj, jj, jj] [AO.row Ty.str (Prod.snd s_225)] (0 : Nat)))) ((0 : Int), [])) (by kernel_rfl) ?_
  refine W.loop (fun (s_225 : Int × List (List UInt8)) => (Cfg.mk Mode.run (headTodo Go.Proofs.Tryd.prog 29 0) (St.mk [AV.list Ty.str l_183 Bool.false, jj, jj, AV.view (0 : Nat) (0 : Nat) Option.none, AV.int IntKind.i64 (Prod.fst s_225), jj, jj, jj, jj, jj, jj, jj, jj, jj, jj, jj, jj, jj, jj, jj, jj, jj, jj, jj, jj, jj, jj, jj, jj, jj, jj, jj, jj, jj, jj, jj, jj, jj, jj, jj, jj, jj, jj, jj, jj, jj, jj, jj, jj, jj, jj, jj] [AO.row Ty.str (Prod.snd s_225)] (0 : Nat)))) (fun t_219 => Walk Go.Proofs.Tryd.prog 29 (Cfg.mk Mode.run ((headTodo Go.Proofs.Tryd.prog 29 0).drop 3) (St.mk [jj, jj, jj, AV.view (0 : Nat) (0 : Nat) Option.none, jj, jj, jj, jj, jj, jj, jj, jj, jj, jj, jj, jj, jj, jj, jj, jj, jj, jj, jj, jj, jj, jj, jj, jj, jj, jj, jj, jj, jj, jj, jj, jj, jj, jj, jj, jj, jj, jj, jj, jj, jj, jj, jj, jj, jj, jj, jj, jj] [AO.row Ty.str t_219] (0 : Nat))) (cellarerref02_Sorted_res r) (cellarerref02_Sorted_out r)) h (fun t_219 h => ?_) (fun s_225 x221 h221 K221 => ?_)
  ·
    exact W.retT 0 100000 h (by kernel_rfl)
  · unfold cellarerref02_Sorted_b1 at h221
    refine W.cond 2 100000 h221 (by kernel_rfl) (fun h221 => ?_) (fun h221 => ?_)
    ·
      refine W.at 2 100000 [] [0, 3, 4, 5, 6] (c' := (fun (s_226 : Int × Int) => (Cfg.mk Mode.run (headTodo Go.Proofs.Tryd.prog 29 1) (St.mk [AV.list Ty.str l_183 Bool.false, jj, jj, AV.view (0 : Nat) (0 : Nat) Option.none, AV.int IntKind.i64 (Prod.fst s_225), AV.int IntKind.i64 (Prod.fst s_226), AV.int IntKind.i64 (Prod.snd s_226), jj, jj, jj, jj, jj, jj, jj, jj, jj, jj, jj, jj, jj, jj, jj, jj, jj, jj, jj, jj, jj, jj, jj, jj, jj, jj, jj, jj, jj, jj, jj, jj, jj, jj, jj, jj, jj, jj, jj, jj, jj, jj, jj, jj, jj] [AO.row Ty.str (Prod.snd s_225)] (0 : Nat)))) ((-1 : Int), (0 : Int))) (by kernel_rfl) ?_
      refine W.loop (fun (s_226 : Int × Int) => (Cfg.mk Mode.run (headTodo Go.Proofs.Tryd.prog 29 1) (St.mk [AV.list Ty.str l_183 Bool.false, jj, jj, AV.view (0 : Nat) (0 : Nat) Option.none, AV.int IntKind.i64 (Prod.fst s_225), AV.int IntKind.i64 (Prod.fst s_226), AV.int IntKind.i64 (Prod.snd s_226), jj, jj, jj, jj, jj, jj, jj, jj, jj, jj, jj, jj, jj, jj, jj, jj, jj, jj, jj, jj, jj, jj, jj, jj, jj, jj, jj, jj, jj, jj, jj, jj, jj, jj, jj, jj, jj, jj, jj, jj, jj, jj, jj, jj, jj] [AO.row Ty.str (Prod.snd s_225)] (0 : Nat)))) (fun t_216 => Walk Go.Proofs.Tryd.prog 29 (Cfg.mk Mode.run ((headTodo Go.Proofs.Tryd.prog 29 1).drop 3) (St.mk [AV.list Ty.str l_183 Bool.false, jj, jj, AV.view (0 : Nat) (0 : Nat) Option.none, AV.int IntKind.i64 (Prod.fst s_225), AV.int IntKind.i64 t_216, jj, jj, jj, jj, jj, jj, jj, jj, jj, jj, jj, jj, jj, jj, jj, jj, jj, jj, jj, jj, jj, jj, jj, jj, jj, jj, jj, jj, jj, jj, jj, jj, jj, jj, jj, jj, jj, jj, jj, jj, jj, jj, jj, jj, jj, jj] [AO.row Ty.str (Prod.snd s_225)] (0 : Nat))) (cellarerref02_Sorted_res r) (cellarerref02_Sorted_out r)) h221 (fun t_216 h221 => ?_) (fun s_226 x218 h218 K218 => ?_)
      ·
        refine W.cond 2 100000 h221 (by kernel_rfl) (fun h221 => ?_) (fun h221 => ?_)
        ·
          refine W.needT 2 100000 h221 (by kernel_rfl) (fun h221 => ?_)
          refine W.needT 2 100000 h221 (by kernel_rfl) (fun h221 => ?_)
          cases h221; exact W.at 2 100000 [Co.own 3 (Ty.str)] [0, 3, 4] (by kernel_rfl) K221
        ·
          cases h221; exact W.at 2 100000 [Co.own 3 (Ty.str)] [0, 3, 4] (by kernel_rfl) K221
      · unfold cellarerref02_Sorted_b0 at h218
        refine W.cond 7 100000 h218 (by kernel_rfl) (fun h218 => ?_) (fun h218 => ?_)
        ·
          refine W.needT 7 100000 h218 (by kernel_rfl) (fun h218 => ?_)
          refine W.bind h218 fun a_214 ha_214 h218 => ?_
          refine W.call 7 100000 (by kernel_rfl) (cellarerref02_Has_con ha_214) (by kernel_rfl) ?_
          refine W.cond 7 100000 h218 (by kernel_rfl) (fun h218 => ?_) (fun h218 => ?_)
          ·
            refine W.yes 7 100000 (by kernel_rfl) ?_
            refine W.yes 7 100000 (by kernel_rfl) ?_
            refine W.cond 7 100000 h218 (by kernel_rfl) (fun h218 => ?_) (fun h218 => ?_)
            ·
              refine W.yes 7 100000 (by kernel_rfl) ?_
              refine W.yes 7 100000 (by kernel_rfl) ?_
              refine W.yes 7 100000 (by kernel_rfl) ?_
              refine W.yes 7 100000 (by kernel_rfl) ?_
              refine W.yes 7 100000 (by kernel_rfl) ?_
              refine W.yes 7 100000 (by kernel_rfl) ?_
              refine W.yes 7 100000 (by kernel_rfl) ?_
              refine W.yes 7 100000 (by kernel_rfl) ?_
              refine W.yes 7 100000 (by kernel_rfl) ?_
              refine W.yes 7 100000 (by kernel_rfl) ?_
              refine W.yes 7 100000 (by kernel_rfl) ?_
              refine W.yes 7 100000 (by kernel_rfl) ?_
              cases h218; exact W.at 7 100000 [] [0, 3, 4, 5, 6] (by kernel_rfl) K218
            ·
              refine W.no 7 100000 (by kernel_rfl) ?_
              refine W.no 7 100000 (by kernel_rfl) ?_
              refine W.needT 7 100000 h218 (by kernel_rfl) (fun h218 => ?_)
              refine W.no 7 100000 (by kernel_rfl) ?_
              refine W.no 7 100000 (by kernel_rfl) ?_
              refine W.no 7 100000 (by kernel_rfl) ?_
              refine W.no 7 100000 (by kernel_rfl) ?_
              refine W.needT 7 100000 h218 (by kernel_rfl) (fun h218 => ?_)
              refine W.no 7 100000 (by kernel_rfl) ?_
              refine W.no 7 100000 (by kernel_rfl) ?_
              refine W.yes 7 100000 (by kernel_rfl) ?_
              refine W.no 7 100000 (by kernel_rfl) ?_
              refine W.yes 7 100000 (by kernel_rfl) ?_
              refine W.cond 7 100000 h218 (by kernel_rfl) (fun h218 => ?_) (fun h218 => ?_)
              ·
                cases h218; exact W.at 7 100000 [] [0, 3, 4, 5, 6] (by kernel_rfl) K218
              ·
                cases h218; exact W.at 7 100000 [] [0, 3, 4, 5, 6] (by kernel_rfl) K218
          ·
            refine W.no 7 100000 (by kernel_rfl) ?_
            refine W.no 7 100000 (by kernel_rfl) ?_
            refine W.no 7 100000 (by kernel_rfl) ?_
            refine W.no 7 100000 (by kernel_rfl) ?_
            refine W.no 7 100000 (by kernel_rfl) ?_
            cases h218; exact W.at 7 100000 [] [0, 3, 4, 5, 6] (by kernel_rfl) K218
        ·
          cases h218; exact W.at 7 100000 [] [0, 3, 4, 5] (by kernel_rfl) K218
    ·
      cases h221; exact W.at 2 100000 [] [3] (by kernel_rfl) K221

theorem stringslite_HasSuffix_con {s_233 : List UInt8} {suffix_234 : List UInt8} {r : Bool} (h : stringslite_HasSuffix s_233 suffix_234 = some r) : Con Go.Proofs.Tryd.prog 48 [AV.str s_233, AV.str suffix_234] [] (stringslite_HasSuffix_res r) (stringslite_HasSuffix_out r) := by
  refine W.con (by kernel_rfl) ?_
  unfold stringslite_HasSuffix at h
  refine W.cond 0 100000 h (by kernel_rfl) (fun h => ?_) (fun h => ?_)
  ·
    refine W.yes 0 100000 (by kernel_rfl) ?_
    refine W.yes 0 100000 (by kernel_rfl) ?_
    refine W.yes 0 100000 (by kernel_rfl) ?_
    refine W.yes 0 100000 (by kernel_rfl) ?_
    refine W.yes 0 100000 (by kernel_rfl) ?_
    refine W.yes 0 100000 (by kernel_rfl) ?_
    refine W.needT 0 100000 h (by kernel_rfl) (fun h => ?_)
    refine W.yes 0 100000 (by kernel_rfl) ?_
    refine W.yes 0 100000 (by kernel_rfl) ?_
    refine W.yes 0 100000 (by kernel_rfl) ?_
    exact W.retT 0 100000 h (by kernel_rfl)
  ·
    refine W.no 0 100000 (by kernel_rfl) ?_
    refine W.no 0 100000 (by kernel_rfl) ?_
    refine W.no 0 100000 (by kernel_rfl) ?_
    refine W.no 0 100000 (by kernel_rfl) ?_
    refine W.no 0 100000 (by kernel_rfl) ?_
    refine W.no 0 100000 (by kernel_rfl) ?_
    refine W.no 0 100000 (by kernel_rfl) ?_
    refine W.no 0 100000 (by kernel_rfl) ?_
    refine W.no 0 100000 (by kernel_rfl) ?_
    exact W.retT 0 100000 h (by kernel_rfl)

theorem strings_HasSuffix_con {s_231 : List UInt8} {suffix_232 : List UInt8} {r : Bool} (h : strings_HasSuffix s_231 suffix_232 = some r) : Con Go.Proofs.Tryd.prog 37 [AV.str s_231, AV.str suffix_232] [] (strings_HasSuffix_res r) (strings_HasSuffix_out r) := by
  refine W.con (by kernel_rfl) ?_
  unfold strings_HasSuffix at h
  refine W.bind h fun a_237 ha_237 h => ?_
  refine W.call 0 100000 (by kernel_rfl) (stringslite_HasSuffix_con ha_237) (by kernel_rfl) ?_
  exact W.retT 0 100000 h (by kernel_rfl)

theorem path_Join_con {dir_229 : List UInt8} {name_230 : List UInt8} {r : List UInt8} (h : path_Join dir_229 name_230 = some r) : Con Go.Proofs.Tryd.prog 26 [AV.str dir_229, AV.str name_230] [] (path_Join_res r) (path_Join_out r) := by
  refine W.con (by kernel_rfl) ?_
  unfold path_Join at h
  refine W.bind h fun a_240 ha_240 h => ?_
  refine W.call 0 100000 (by kernel_rfl) (strings_HasSuffix_con ha_240) (by kernel_rfl) ?_
  refine W.cond 0 100000 h (by kernel_rfl) (fun h => ?_) (fun h => ?_)
  ·
    refine W.needT 0 100000 h (by kernel_rfl) (fun h => ?_)
    exact W.retT 0 100000 h (by kernel_rfl)
  ·
    refine W.needT 0 100000 h (by kernel_rfl) (fun h => ?_)
    refine W.needT 0 100000 h (by kernel_rfl) (fun h => ?_)
    exact W.retT 0 100000 h (by kernel_rfl)

theorem stringslite_HasPrefix_con {s_250 : List UInt8} {prefix_251 : List UInt8} {r : Bool} (h : stringslite_HasPrefix s_250 prefix_251 = some r) : Con Go.Proofs.Tryd.prog 45 [AV.str s_250, AV.str prefix_251] [] (stringslite_HasPrefix_res r) (stringslite_HasPrefix_out r) := by
  refine W.con (by kernel_rfl) ?_
  unfold stringslite_HasPrefix at h
  refine W.cond 0 100000 h (by kernel_rfl) (fun h => ?_) (fun h => ?_)
  ·
    refine W.yes 0 100000 (by kernel_rfl) ?_
    refine W.yes 0 100000 (by kernel_rfl) ?_
    refine W.yes 0 100000 (by kernel_rfl) ?_
    refine W.needT 0 100000 h (by kernel_rfl) (fun h => ?_)
    refine W.yes 0 100000 (by kernel_rfl) ?_
    refine W.yes 0 100000 (by kernel_rfl) ?_
    refine W.yes 0 100000 (by kernel_rfl) ?_
    exact W.retT 0 100000 h (by kernel_rfl)
  ·
    refine W.no 0 100000 (by kernel_rfl) ?_
    refine W.no 0 100000 (by kernel_rfl) ?_
    refine W.no 0 100000 (by kernel_rfl) ?_
    refine W.no 0 100000 (by kernel_rfl) ?_
    refine W.no 0 100000 (by kernel_rfl) ?_
    refine W.no 0 100000 (by kernel_rfl) ?_
    exact W.retT 0 100000 h (by kernel_rfl)

theorem strings_HasPrefix_con {s_248 : List UInt8} {prefix_249 : List UInt8} {r : Bool} (h : strings_HasPrefix s_248 prefix_249 = some r) : Con Go.Proofs.Tryd.prog 32 [AV.str s_248, AV.str prefix_249] [] (strings_HasPrefix_res r) (strings_HasPrefix_out r) := by
  refine W.con (by kernel_rfl) ?_
  unfold strings_HasPrefix at h
  refine W.bind h fun a_254 ha_254 h => ?_
  refine W.call 0 100000 (by kernel_rfl) (stringslite_HasPrefix_con ha_254) (by kernel_rfl) ?_
  exact W.retT 0 100000 h (by kernel_rfl)

theorem path_Under_con {dir_245 : List UInt8} {s_246 : List UInt8} {r : Bool} (h : path_Under dir_245 s_246 = some r) : Con Go.Proofs.Tryd.prog 16 [AV.str dir_245, AV.str s_246] [] (path_Under_res r) (path_Under_out r) := by
  refine W.con (by kernel_rfl) ?_
  unfold path_Under at h
  refine W.bind h fun a_247 ha_247 h => ?_
  refine W.call 0 100000 (by kernel_rfl) (path_Join_con ha_247) (by kernel_rfl) ?_
  refine W.bind h fun a_257 ha_257 h => ?_
  refine W.call 0 100000 (by kernel_rfl) (strings_HasPrefix_con ha_257) (by kernel_rfl) ?_
  refine W.cond 0 100000 h (by kernel_rfl) (fun h => ?_) (fun h => ?_)
  ·
    refine W.yes 0 100000 (by kernel_rfl) ?_
    refine W.yes 0 100000 (by kernel_rfl) ?_
    refine W.yes 0 100000 (by kernel_rfl) ?_
    refine W.yes 0 100000 (by kernel_rfl) ?_
    refine W.yes 0 100000 (by kernel_rfl) ?_
    exact W.retT 0 100000 h (by kernel_rfl)
  ·
    refine W.no 0 100000 (by kernel_rfl) ?_
    refine W.no 0 100000 (by kernel_rfl) ?_
    refine W.no 0 100000 (by kernel_rfl) ?_
    refine W.no 0 100000 (by kernel_rfl) ?_
    refine W.no 0 100000 (by kernel_rfl) ?_
    exact W.retT 0 100000 h (by kernel_rfl)

theorem path_plain_con {s_261 : List UInt8} {r : Bool} (h : path_plain s_261 = some r) : Con Go.Proofs.Tryd.prog 30 [AV.str s_261] [] (path_plain_res r) (path_plain_out r) := by
  refine W.con (by kernel_rfl) ?_
  unfold path_plain at h
  refine W.at 0 100000 [] [0, 5, 6] (c' := (fun (s_272 : Int) => (Cfg.mk Mode.run (headTodo Go.Proofs.Tryd.prog 30 0) (St.mk [AV.str s_261, jj, jj, jj, jj, AV.int IntKind.i64 (↑(List.length s_261) : Int), AV.int IntKind.i64 s_272, jj, jj, jj, jj, jj, jj, jj, jj, jj, jj, jj, jj, jj, jj, jj] [] (0 : Nat)))) ((0 : Int))) (by kernel_rfl) ?_
  refine W.loop (fun (s_272 : Int) => (Cfg.mk Mode.run (headTodo Go.Proofs.Tryd.prog 30 0) (St.mk [AV.str s_261, jj, jj, jj, jj, AV.int IntKind.i64 (↑(List.length s_261) : Int), AV.int IntKind.i64 s_272, jj, jj, jj, jj, jj, jj, jj, jj, jj, jj, jj, jj, jj, jj, jj] [] (0 : Nat)))) (fun t => (Sum.elim (fun t_265 => r = (Bool.false)) (fun t_266 => Walk Go.Proofs.Tryd.prog 30 (Cfg.mk Mode.run ((headTodo Go.Proofs.Tryd.prog 30 0).drop 3) (St.mk [AV.str s_261, jj, jj, jj, jj, jj, jj, jj, jj, jj, jj, jj, jj, jj, jj, jj, jj, jj, jj, jj, jj, jj] [] (0 : Nat))) (path_plain_res r) (path_plain_out r))) t) h (fun t h => ?_) (fun s_272 x269 h269 K269 => ?_)
  ·
    rcases t with t_265 | t_266
    · replace h := W.inl (h)
      refine W.elimL (?_)
      exact (Option.some.inj h).symm
    · replace h := W.inr (h)
      refine W.elimR (?_)
      refine W.bind h fun a_267 ha_267 h => ?_
      refine W.call 0 100000 (by kernel_rfl) (strings_HasPrefix_con ha_267) (by kernel_rfl) ?_
      exact W.retT 0 100000 h (by kernel_rfl)
  · unfold path_plain_b0 at h269
    refine W.cond 2 100000 h269 (by kernel_rfl) (fun h269 => ?_) (fun h269 => ?_)
    ·
      refine W.needT 2 100000 h269 (by kernel_rfl) (fun h269 => ?_)
      refine W.cond 2 100000 h269 (by kernel_rfl) (fun h269 => ?_) (fun h269 => ?_)
      ·
        refine W.yes 2 100000 (by kernel_rfl) ?_
        refine W.yes 2 100000 (by kernel_rfl) ?_
        refine W.yes 2 100000 (by kernel_rfl) ?_
        refine W.yes 2 100000 (by kernel_rfl) ?_
        refine W.yes 2 100000 (by kernel_rfl) ?_
        cases h269; exact W.retK 2 100000 K269 (by kernel_rfl)
      ·
        refine W.no 2 100000 (by kernel_rfl) ?_
        refine W.no 2 100000 (by kernel_rfl) ?_
        refine W.needT 2 100000 h269 (by kernel_rfl) (fun h269 => ?_)
        refine W.no 2 100000 (by kernel_rfl) ?_
        refine W.no 2 100000 (by kernel_rfl) ?_
        refine W.cond 2 100000 h269 (by kernel_rfl) (fun h269 => ?_) (fun h269 => ?_)
        ·
          cases h269; exact W.retK 2 100000 K269 (by kernel_rfl)
        ·
          cases h269; exact W.at 2 100000 [] [0, 5, 6] (by kernel_rfl) K269
    ·
      cases h269; exact W.at 2 100000 [] [0] (by kernel_rfl) K269

theorem strings_Count_con {s_299 : List UInt8} {substr_300 : List UInt8} {r : Int} (h : strings_Count s_299 substr_300 = some r) : Con Go.Proofs.Tryd.prog 54 [AV.str s_299, AV.str substr_300] [] (strings_Count_res r) (strings_Count_out r) := by
  refine W.con (by kernel_rfl) ?_
  unfold strings_Count at h
  refine W.cond 0 100000 h (by kernel_rfl) (fun h => ?_) (fun h => ?_)
  ·
    exact nomatch h
  ·
    refine W.cond 0 100000 h (by kernel_rfl) (fun h => ?_) (fun h => ?_)
    ·
      refine W.needT 0 100000 h (by kernel_rfl) (fun h => ?_)
      exact W.retT 0 100000 h (by kernel_rfl)
    ·
      refine W.at 0 100000 [] [0, 1, 5] (c' := (fun (s_311 : List UInt8 × Int) => (Cfg.mk Mode.run (headTodo Go.Proofs.Tryd.prog 54 0) (St.mk [AV.str (Prod.fst s_311), AV.str substr_300, jj, jj, jj, AV.int IntKind.i64 (Prod.snd s_311), jj, jj, jj, jj, jj, jj, jj, jj, jj, jj, jj, jj, jj, jj, jj, jj, jj, jj, jj, jj, jj, jj, jj, jj, jj, jj, jj, jj] [] (0 : Nat)))) (s_299, (0 : Int))) (by kernel_rfl) ?_
      refine W.loop (fun (s_311 : List UInt8 × Int) => (Cfg.mk Mode.run (headTodo Go.Proofs.Tryd.prog 54 0) (St.mk [AV.str (Prod.fst s_311), AV.str substr_300, jj, jj, jj, AV.int IntKind.i64 (Prod.snd s_311), jj, jj, jj, jj, jj, jj, jj, jj, jj, jj, jj, jj, jj, jj, jj, jj, jj, jj, jj, jj, jj, jj, jj, jj, jj, jj, jj, jj] [] (0 : Nat)))) (fun t_306 => r = (t_306)) h (fun t_306 h => ?_) (fun s_311 x308 h308 K308 => ?_)
      ·
        exact (Option.some.inj h).symm
      · unfold strings_Count_b0 at h308
        refine W.bind h308 fun a_304 ha_304 h308 => ?_
        refine W.call 1 100000 (by kernel_rfl) (strings_Index_con ha_304) (by kernel_rfl) ?_
        refine W.cond 1 100000 h308 (by kernel_rfl) (fun h308 => ?_) (fun h308 => ?_)
        ·
          cases h308; exact W.retK 1 100000 K308 (by kernel_rfl)
        ·
          refine W.needT 1 100000 h308 (by kernel_rfl) (fun h308 => ?_)
          cases h308; exact W.at 1 100000 [] [0, 1, 5] (by kernel_rfl) K308

theorem strings_genSplit_con {s_293 : List UInt8} {sep_294 : List UInt8} {sepSave_295 : Int} {n_296 : Int} {r : List (List UInt8)} (h : strings_genSplit s_293 sep_294 sepSave_295 n_296 = some r) : Con Go.Proofs.Tryd.prog 46 [AV.str s_293, AV.str sep_294, AV.int IntKind.i64 sepSave_295, AV.int IntKind.i64 n_296] [] (strings_genSplit_res r) (strings_genSplit_out r) := by
  refine W.con (by kernel_rfl) ?_
  unfold strings_genSplit at h
  refine W.cond 0 100000 h (by kernel_rfl) (fun h => ?_) (fun h => ?_)
  ·
    exact W.retT 0 100000 h (by kernel_rfl)
  ·
    refine W.cond 0 100000 h (by kernel_rfl) (fun h => ?_) (fun h => ?_)
    ·
      exact nomatch h
    ·
      refine W.join (fun t_314 => Walk Go.Proofs.Tryd.prog 46 (Cfg.mk Mode.run (seqTodo Go.Proofs.Tryd.prog 46 7) (St.mk [AV.str s_293, AV.str sep_294, AV.int IntKind.i64 sepSave_295, AV.int IntKind.i64 t_314, jj, jj, jj, jj, jj, jj, jj, jj, jj, jj, jj, jj, jj, jj, jj, jj, jj, jj, jj, jj, jj, jj, jj, jj, jj, jj, jj, jj, jj, jj, jj, jj, jj, jj, jj, jj, jj, jj, jj, jj, jj, jj, jj, jj, jj, jj, jj, jj, jj, jj, jj, jj, jj, jj, jj, jj, jj, jj, jj, jj, jj, jj] [] (0 : Nat))) (strings_genSplit_res r) (strings_genSplit_out r)) h (fun t_314 h => ?_) (fun t328 h328 K328 => ?_)
      ·
        refine W.needT 0 100000 h (by kernel_rfl) (fun h => ?_)
        refine W.at 0 100000 [] [0, 1, 2, 3, 9, 10] (c' := (fun (s_331 : List UInt8 × Int × List (List UInt8)) => (Cfg.mk Mode.run (headTodo Go.Proofs.Tryd.prog 46 0) (St.mk [AV.str (Prod.fst s_331), AV.str sep_294, AV.int IntKind.i64 sepSave_295, AV.int IntKind.i64 (IntKind.wrap IntKind.i64 ((if IntKind.wrap IntKind.i64 ((↑(List.length s_293) : Int) + (1 : Int)) < t_314 then IntKind.wrap IntKind.i64 ((↑(List.length s_293) : Int) + (1 : Int)) else t_314) - (1 : Int))), jj, jj, jj, jj, jj, AV.view (0 : Nat) (0 : Nat) Option.none, AV.int IntKind.i64 (Prod.fst (Prod.snd s_331)), jj, jj, jj, jj, jj, jj, jj, jj, jj, jj, jj, jj, jj, jj, jj, jj, jj, jj, jj, jj, jj, jj, jj, jj, jj, jj, jj, jj, jj, jj, jj, jj, jj, jj, jj, jj, jj, jj, jj, jj, jj, jj, jj, jj, jj, jj, jj, jj, jj, jj, jj, jj, jj, jj, jj] [AO.row Ty.str (Prod.snd (Prod.snd s_331))] (0 : Nat)))) (s_293, (0 : Int), List.replicate (Int.toNat (if IntKind.wrap IntKind.i64 ((↑(List.length s_293) : Int) + (1 : Int)) < t_314 then IntKind.wrap IntKind.i64 ((↑(List.length s_293) : Int) + (1 : Int)) else t_314)) [])) (by kernel_rfl) ?_
        refine W.loop (fun (s_331 : List UInt8 × Int × List (List UInt8)) => (Cfg.mk Mode.run (headTodo Go.Proofs.Tryd.prog 46 0) (St.mk [AV.str (Prod.fst s_331), AV.str sep_294, AV.int IntKind.i64 sepSave_295, AV.int IntKind.i64 (IntKind.wrap IntKind.i64 ((if IntKind.wrap IntKind.i64 ((↑(List.length s_293) : Int) + (1 : Int)) < t_314 then IntKind.wrap IntKind.i64 ((↑(List.length s_293) : Int) + (1 : Int)) else t_314) - (1 : Int))), jj, jj, jj, jj, jj, AV.view (0 : Nat) (0 : Nat) Option.none, AV.int IntKind.i64 (Prod.fst (Prod.snd s_331)), jj, jj, jj, jj, jj, jj, jj, jj, jj, jj, jj, jj, jj, jj, jj, jj, jj, jj, jj, jj, jj, jj, jj, jj, jj, jj, jj, jj, jj, jj, jj, jj, jj, jj, jj, jj, jj, jj, jj, jj, jj, jj, jj, jj, jj, jj, jj, jj, jj, jj, jj, jj, jj, jj, jj] [AO.row Ty.str (Prod.snd (Prod.snd s_331))] (0 : Nat)))) (fun t_325 => Walk Go.Proofs.Tryd.prog 46 (Cfg.mk Mode.run ((headTodo Go.Proofs.Tryd.prog 46 0).drop 3) (St.mk [AV.str (Prod.fst t_325), jj, jj, jj, jj, jj, jj, jj, jj, AV.view (0 : Nat) (0 : Nat) Option.none, AV.int IntKind.i64 (Prod.fst (Prod.snd t_325)), jj, jj, jj, jj, jj, jj, jj, jj, jj, jj, jj, jj, jj, jj, jj, jj, jj, jj, jj, jj, jj, jj, jj, jj, jj, jj, jj, jj, jj, jj, jj, jj, jj, jj, jj, jj, jj, jj, jj, jj, jj, jj, jj, jj, jj, jj, jj, jj, jj, jj, jj, jj, jj, jj, jj] [AO.row Ty.str (Prod.snd (Prod.snd t_325))] (0 : Nat))) (strings_genSplit_res r) (strings_genSplit_out r)) h (fun t_325 h => ?_) (fun s_331 x327 h327 K327 => ?_)
        ·
          refine W.needT 0 100000 h (by kernel_rfl) (fun h => ?_)
          refine W.needT 0 100000 h (by kernel_rfl) (fun h => ?_)
          refine W.needT 0 100000 h (by kernel_rfl) (fun h => ?_)
          exact W.retT 0 100000 h (by kernel_rfl)
        · unfold strings_genSplit_b0 at h327
          refine W.cond 2 100000 h327 (by kernel_rfl) (fun h327 => ?_) (fun h327 => ?_)
          ·
            refine W.bind h327 fun a_321 ha_321 h327 => ?_
            refine W.call 2 100000 (by kernel_rfl) (strings_Index_con ha_321) (by kernel_rfl) ?_
            refine W.cond 2 100000 h327 (by kernel_rfl) (fun h327 => ?_) (fun h327 => ?_)
            ·
              cases h327; exact W.at 2 100000 [] [0, 9, 10] (by kernel_rfl) K327
            ·
              refine W.needT 2 100000 h327 (by kernel_rfl) (fun h327 => ?_)
              refine W.needT 2 100000 h327 (by kernel_rfl) (fun h327 => ?_)
              refine W.needT 2 100000 h327 (by kernel_rfl) (fun h327 => ?_)
              refine W.needT 2 100000 h327 (by kernel_rfl) (fun h327 => ?_)
              cases h327; exact W.at 2 100000 [] [0, 1, 2, 3, 9, 10] (by kernel_rfl) K327
          ·
            cases h327; exact W.at 2 100000 [] [0, 9, 10] (by kernel_rfl) K327
      · refine W.next 0 2 (by kernel_rfl) ?_
        refine W.cond 1 100000 h328 (by kernel_rfl) (fun h328 => ?_) (fun h328 => ?_)
        ·
          refine W.bind h328 fun a_312 ha_312 h328 => ?_
          refine W.call 1 100000 (by kernel_rfl) (strings_Count_con ha_312) (by kernel_rfl) ?_
          cases h328; exact W.at 1 100000 [] [0, 1, 2, 3] (by kernel_rfl) K328
        ·
          cases h328; exact W.at 1 100000 [] [0, 1, 2, 3] (by kernel_rfl) K328

theorem strings_Split_con {s_281 : List UInt8} {sep_282 : List UInt8} {r : List (List UInt8)} (h : strings_Split s_281 sep_282 = some r) : Con Go.Proofs.Tryd.prog 34 [AV.str s_281, AV.str sep_282] [] (strings_Split_res r) (strings_Split_out r) := by
  refine W.con (by kernel_rfl) ?_
  unfold strings_Split at h
  refine W.bind h fun a_332 ha_332 h => ?_
  refine W.call 0 100000 (by kernel_rfl) (strings_genSplit_con ha_332) (by kernel_rfl) ?_
  exact W.retT 0 100000 h (by kernel_rfl)

theorem path_Parts_1_con {p_344 : List UInt8} {r : Bool} (h : path_Parts_1 p_344 = some r) : Con Go.Proofs.Tryd.prog 35 [AV.str p_344] [] (path_Parts_1_res r) (path_Parts_1_out r) := by
  refine W.con (by kernel_rfl) ?_
  unfold path_Parts_1 at h
  exact W.retT 0 100000 h (by kernel_rfl)

theorem path_keep_string__con {l_340 : List (List UInt8)} {r : List (List UInt8)} (h : path_keep_string_ l_340 = some r) : Con Go.Proofs.Tryd.prog 33 [AV.list Ty.str l_340 Bool.false, AV.func (Go.Fn.func (35 : Nat)) [] []] [] (path_keep_string__res r) (path_keep_string__out r) := by
  refine W.con (by kernel_rfl) ?_
  unfold path_keep_string_ at h
  refine W.at 0 100000 [Co.own 5 (Ty.str)] [1, 5, 8, 9, 10] (c' := (fun (s_359 : Int × List (List UInt8)) => (Cfg.mk Mode.run (headTodo Go.Proofs.Tryd.prog 33 0) (St.mk [jj, AV.func (Go.Fn.func (35 : Nat)) [] [], jj, jj, jj, AV.view (0 : Nat) (0 : Nat) Option.none, jj, jj, AV.list Ty.str l_340 Bool.false, AV.int IntKind.i64 (↑(List.length l_340) : Int), AV.int IntKind.i64 (Prod.fst s_359), jj, jj, jj, jj, jj, jj, jj, jj, jj, jj, jj, jj] [AO.row Ty.str (Prod.snd s_359)] (0 : Nat)))) ((0 : Int), [])) (by kernel_rfl) ?_
  refine W.loop (fun (s_359 : Int × List (List UInt8)) => (Cfg.mk Mode.run (headTodo Go.Proofs.Tryd.prog 33 0) (St.mk [jj, AV.func (Go.Fn.func (35 : Nat)) [] [], jj, jj, jj, AV.view (0 : Nat) (0 : Nat) Option.none, jj, jj, AV.list Ty.str l_340 Bool.false, AV.int IntKind.i64 (↑(List.length l_340) : Int), AV.int IntKind.i64 (Prod.fst s_359), jj, jj, jj, jj, jj, jj, jj, jj, jj, jj, jj, jj] [AO.row Ty.str (Prod.snd s_359)] (0 : Nat)))) (fun t_354 => Walk Go.Proofs.Tryd.prog 33 (Cfg.mk Mode.run ((headTodo Go.Proofs.Tryd.prog 33 0).drop 3) (St.mk [jj, jj, jj, jj, jj, AV.view (0 : Nat) (0 : Nat) Option.none, jj, jj, jj, jj, jj, jj, jj, jj, jj, jj, jj, jj, jj, jj, jj, jj, jj] [AO.row Ty.str t_354] (0 : Nat))) (path_keep_string__res r) (path_keep_string__out r)) h (fun t_354 h => ?_) (fun s_359 x356 h356 K356 => ?_)
  ·
    exact W.retT 0 100000 h (by kernel_rfl)
  · unfold path_keep_string__b0 at h356
    refine W.cond 2 100000 h356 (by kernel_rfl) (fun h356 => ?_) (fun h356 => ?_)
    ·
      refine W.needT 2 100000 h356 (by kernel_rfl) (fun h356 => ?_)
      refine W.bind h356 fun a_352 ha_352 h356 => ?_
      refine W.call 2 100000 (by kernel_rfl) (path_Parts_1_con ha_352) (by kernel_rfl) ?_
      refine W.cond 2 100000 h356 (by kernel_rfl) (fun h356 => ?_) (fun h356 => ?_)
      ·
        refine W.needT 2 100000 h356 (by kernel_rfl) (fun h356 => ?_)
        cases h356; exact W.at 2 100000 [Co.own 5 (Ty.str)] [1, 5, 8, 9, 10] (by kernel_rfl) K356
      ·
        cases h356; exact W.at 2 100000 [Co.own 5 (Ty.str)] [1, 5, 8, 9, 10] (by kernel_rfl) K356
    ·
      cases h356; exact W.at 2 100000 [] [5] (by kernel_rfl) K356

theorem path_Parts_con {s_338 : List UInt8} {r : List (List UInt8)} (h : path_Parts s_338 = some r) : Con Go.Proofs.Tryd.prog 20 [AV.str s_338] [] (path_Parts_res r) (path_Parts_out r) := by
  refine W.con (by kernel_rfl) ?_
  unfold path_Parts at h
  refine W.bind h fun a_339 ha_339 h => ?_
  refine W.call 0 100000 (by kernel_rfl) (strings_Split_con ha_339) (by kernel_rfl) ?_
  refine W.bind h fun a_360 ha_360 h => ?_
  refine W.call 0 100000 (by kernel_rfl) (path_keep_string__con ha_360) (by kernel_rfl) ?_
  exact W.retT 0 100000 h (by kernel_rfl)

theorem path_Clean_con {s_364 : List UInt8} {r : List UInt8 × Int} (h : path_Clean s_364 = some r) : Con Go.Proofs.Tryd.prog 10 [AV.str s_364] [] (path_Clean_res r) (path_Clean_out r) := by
  refine W.con (by kernel_rfl) ?_
  unfold path_Clean at h
  refine W.bind h fun a_365 ha_365 h => ?_
  refine W.call 0 100000 (by kernel_rfl) (path_plain_con ha_365) (by kernel_rfl) ?_
  refine W.cond 0 100000 h (by kernel_rfl) (fun h => ?_) (fun h => ?_)
  ·
    exact W.retT 0 100000 h (by kernel_rfl)
  ·
    refine W.bind h fun a_366 ha_366 h => ?_
    refine W.call 0 100000 (by kernel_rfl) (path_Parts_con ha_366) (by kernel_rfl) ?_
    refine W.at 0 100000 [Co.own 4 (Ty.str)] [4, 12, 13, 14] (c' := (fun (s_382 : Int × List (List UInt8)) => (Cfg.mk Mode.run (headTodo Go.Proofs.Tryd.prog 10 0) (St.mk [jj, jj, jj, jj, AV.view (0 : Nat) (0 : Nat) Option.none, jj, jj, jj, jj, jj, jj, jj, AV.view (1 : Nat) (0 : Nat) Option.none, AV.int IntKind.i64 ((↑(List.length a_366) : Int) - (↑(0 : Nat) : Int)), AV.int IntKind.i64 (Prod.fst s_382), jj, jj, jj, jj, jj, jj, jj, jj, jj, jj, jj, jj, jj, jj, jj, jj, jj, jj, jj, jj, jj, jj, jj, jj, jj, jj, jj] [AO.row Ty.str (Prod.snd s_382), AO.row Ty.str a_366] (0 : Nat)))) ((0 : Int), [])) (by kernel_rfl) ?_
    refine W.loop (fun (s_382 : Int × List (List UInt8)) => (Cfg.mk Mode.run (headTodo Go.Proofs.Tryd.prog 10 0) (St.mk [jj, jj, jj, jj, AV.view (0 : Nat) (0 : Nat) Option.none, jj, jj, jj, jj, jj, jj, jj, AV.view (1 : Nat) (0 : Nat) Option.none, AV.int IntKind.i64 ((↑(List.length a_366) : Int) - (↑(0 : Nat) : Int)), AV.int IntKind.i64 (Prod.fst s_382), jj, jj, jj, jj, jj, jj, jj, jj, jj, jj, jj, jj, jj, jj, jj, jj, jj, jj, jj, jj, jj, jj, jj, jj, jj, jj, jj] [AO.row Ty.str (Prod.snd s_382), AO.row Ty.str a_366] (0 : Nat)))) (fun t_375 => Walk Go.Proofs.Tryd.prog 10 (Cfg.mk Mode.run ((headTodo Go.Proofs.Tryd.prog 10 0).drop 3) (St.mk [jj, jj, jj, jj, AV.view (0 : Nat) (0 : Nat) Option.none, jj, jj, jj, jj, jj, jj, jj, jj, jj, jj, jj, jj, jj, jj, jj, jj, jj, jj, jj, jj, jj, jj, jj, jj, jj, jj, jj, jj, jj, jj, jj, jj, jj, jj, jj, jj, jj] [AO.row Ty.str t_375] (0 : Nat))) (path_Clean_res r) (path_Clean_out r)) h (fun t_375 h => ?_) (fun s_382 x378 h378 K378 => ?_)
    ·
      refine W.bind h fun a_376 ha_376 h => ?_
      refine W.call 0 100000 (by kernel_rfl) (strings_Join_con ha_376) (by kernel_rfl) ?_
      refine W.needT 0 100000 h (by kernel_rfl) (fun h => ?_)
      refine W.cond 0 100000 h (by kernel_rfl) (fun h => ?_) (fun h => ?_)
      ·
        exact W.retT 0 100000 h (by kernel_rfl)
      ·
        exact W.retT 0 100000 h (by kernel_rfl)
    · unfold path_Clean_b0 at h378
      refine W.cond 2 100000 h378 (by kernel_rfl) (fun h378 => ?_) (fun h378 => ?_)
      ·
        refine W.needT 2 100000 h378 (by kernel_rfl) (fun h378 => ?_)
        refine W.needT 2 100000 h378 (by kernel_rfl) (fun h378 => ?_)
        refine W.cond 2 100000 h378 (by kernel_rfl) (fun h378 => ?_) (fun h378 => ?_)
        ·
          cases h378; exact W.at 2 100000 [Co.own 4 (Ty.str)] [4, 12, 13, 14] (by kernel_rfl) K378
        ·
          refine W.cond 2 100000 h378 (by kernel_rfl) (fun h378 => ?_) (fun h378 => ?_)
          ·
            refine W.needT 2 100000 h378 (by kernel_rfl) (fun h378 => ?_)
            cases h378; exact W.at 2 100000 [Co.own 4 (Ty.str)] [4, 12, 13, 14] (by kernel_rfl) K378
          ·
            refine W.needT 2 100000 h378 (by kernel_rfl) (fun h378 => ?_)
            cases h378; exact W.at 2 100000 [Co.own 4 (Ty.str)] [4, 12, 13, 14] (by kernel_rfl) K378
      ·
        cases h378; exact W.at 2 100000 [] [4] (by kernel_rfl) K378

theorem path_Right_con {s_384 : List UInt8} {r : Bool} (h : path_Right s_384 = some r) : Con Go.Proofs.Tryd.prog 12 [AV.str s_384] [] (path_Right_res r) (path_Right_out r) := by
  refine W.con (by kernel_rfl) ?_
  unfold path_Right at h
  refine W.bind h fun a_385 ha_385 h => ?_
  refine W.call 0 100000 (by kernel_rfl) (path_Clean_con ha_385) (by kernel_rfl) ?_
  refine W.cond 0 100000 h (by kernel_rfl) (fun h => ?_) (fun h => ?_)
  ·
    refine W.yes 0 100000 (by kernel_rfl) ?_
    refine W.yes 0 100000 (by kernel_rfl) ?_
    refine W.yes 0 100000 (by kernel_rfl) ?_
    exact W.retT 0 100000 h (by kernel_rfl)
  ·
    refine W.no 0 100000 (by kernel_rfl) ?_
    refine W.no 0 100000 (by kernel_rfl) ?_
    refine W.no 0 100000 (by kernel_rfl) ?_
    exact W.retT 0 100000 h (by kernel_rfl)

theorem path_Parents_con {s_389 : List UInt8} {r : List (List UInt8)} (h : path_Parents s_389 = some r) : Con Go.Proofs.Tryd.prog 18 [AV.str s_389] [] (path_Parents_res r) (path_Parents_out r) := by
  refine W.con (by kernel_rfl) ?_
  unfold path_Parents at h
  refine W.bind h fun a_390 ha_390 h => ?_
  refine W.call 0 100000 (by kernel_rfl) (path_Parts_con ha_390) (by kernel_rfl) ?_
  refine W.at 0 100000 [Co.own 4 (Ty.str)] [3, 4, 5, 10, 11, 12] (c' := (fun (s_408 : List UInt8 × Int × List (List UInt8)) => (Cfg.mk Mode.run (headTodo Go.Proofs.Tryd.prog 18 0) (St.mk [jj, jj, jj, AV.view (0 : Nat) (0 : Nat) Option.none, AV.view (1 : Nat) (0 : Nat) Option.none, AV.str (Prod.fst s_408), jj, jj, jj, jj, AV.view (0 : Nat) (0 : Nat) Option.none, AV.int IntKind.i64 ((↑(List.length a_390) : Int) - (↑(0 : Nat) : Int)), AV.int IntKind.i64 (Prod.fst (Prod.snd s_408)), jj, jj, jj, jj, jj, jj, jj, jj, jj, jj, jj, jj, jj, jj, jj, jj, jj, jj] [AO.row Ty.str a_390, AO.row Ty.str (Prod.snd (Prod.snd s_408))] (0 : Nat)))) ([(47 : UInt8)], (0 : Int), [])) (by kernel_rfl) ?_
  refine W.loop (fun (s_408 : List UInt8 × Int × List (List UInt8)) => (Cfg.mk Mode.run (headTodo Go.Proofs.Tryd.prog 18 0) (St.mk [jj, jj, jj, AV.view (0 : Nat) (0 : Nat) Option.none, AV.view (1 : Nat) (0 : Nat) Option.none, AV.str (Prod.fst s_408), jj, jj, jj, jj, AV.view (0 : Nat) (0 : Nat) Option.none, AV.int IntKind.i64 ((↑(List.length a_390) : Int) - (↑(0 : Nat) : Int)), AV.int IntKind.i64 (Prod.fst (Prod.snd s_408)), jj, jj, jj, jj, jj, jj, jj, jj, jj, jj, jj, jj, jj, jj, jj, jj, jj, jj] [AO.row Ty.str a_390, AO.row Ty.str (Prod.snd (Prod.snd s_408))] (0 : Nat)))) (fun t_403 => Walk Go.Proofs.Tryd.prog 18 (Cfg.mk Mode.run ((headTodo Go.Proofs.Tryd.prog 18 0).drop 3) (St.mk [jj, jj, jj, jj, AV.view (0 : Nat) (0 : Nat) Option.none, jj, jj, jj, jj, jj, jj, jj, jj, jj, jj, jj, jj, jj, jj, jj, jj, jj, jj, jj, jj, jj, jj, jj, jj, jj, jj] [AO.row Ty.str t_403] (0 : Nat))) (path_Parents_res r) (path_Parents_out r)) h (fun t_403 h => ?_) (fun s_408 x405 h405 K405 => ?_)
  ·
    exact W.retT 0 100000 h (by kernel_rfl)
  · unfold path_Parents_b0 at h405
    refine W.cond 2 100000 h405 (by kernel_rfl) (fun h405 => ?_) (fun h405 => ?_)
    ·
      refine W.needT 2 100000 h405 (by kernel_rfl) (fun h405 => ?_)
      refine W.needT 2 100000 h405 (by kernel_rfl) (fun h405 => ?_)
      refine W.needT 2 100000 h405 (by kernel_rfl) (fun h405 => ?_)
      refine W.cond 2 100000 h405 (by kernel_rfl) (fun h405 => ?_) (fun h405 => ?_)
      ·
        refine W.bind h405 fun a_401 ha_401 h405 => ?_
        refine W.call 2 100000 (by kernel_rfl) (path_Join_con ha_401) (by kernel_rfl) ?_
        cases h405; exact W.at 2 100000 [Co.own 4 (Ty.str)] [3, 4, 5, 10, 11, 12] (by kernel_rfl) K405
      ·
        cases h405; exact W.at 2 100000 [Co.own 4 (Ty.str)] [3, 4, 5, 10, 11, 12] (by kernel_rfl) K405
    ·
      cases h405; exact W.at 2 100000 [] [4] (by kernel_rfl) K405

theorem cellarerlaw02_awake_con  {r : Bool} (h : cellarerlaw02_awake  = some r) : Con Go.Proofs.Tryd.prog 9 [] [] (cellarerlaw02_awake_res r) (cellarerlaw02_awake_out r) := by
  refine W.con (by kernel_rfl) ?_
  unfold cellarerlaw02_awake at h
  refine W.bind h fun a_409 ha_409 h => ?_
  refine W.call 0 100000 (by kernel_rfl) (path_Clean_con ha_409) (by kernel_rfl) ?_
  refine W.cond 0 100000 h (by kernel_rfl) (fun h => ?_) (fun h => ?_)
  ·
    refine W.yes 0 100000 (by kernel_rfl) ?_
    refine W.yes 0 100000 (by kernel_rfl) ?_
    refine W.cond 0 100000 h (by kernel_rfl) (fun h => ?_) (fun h => ?_)
    ·
      refine W.bind h fun a_410 ha_410 h => ?_
      refine W.call 0 100000 (by kernel_rfl) (path_Right_con ha_410) (by kernel_rfl) ?_
      refine W.yes 0 100000 (by kernel_rfl) ?_
      refine W.cond 0 100000 h (by kernel_rfl) (fun h => ?_) (fun h => ?_)
      ·
        refine W.bind h fun a_411 ha_411 h => ?_
        refine W.call 0 100000 (by kernel_rfl) (path_Name_con ha_411) (by kernel_rfl) ?_
        refine W.yes 0 100000 (by kernel_rfl) ?_
        refine W.cond 0 100000 h (by kernel_rfl) (fun h => ?_) (fun h => ?_)
        ·
          refine W.bind h fun a_412 ha_412 h => ?_
          refine W.call 0 100000 (by kernel_rfl) (path_Under_con ha_412) (by kernel_rfl) ?_
          refine W.yes 0 100000 (by kernel_rfl) ?_
          exact W.retT 0 100000 h (by kernel_rfl)
        ·
          refine W.no 0 100000 (by kernel_rfl) ?_
          exact W.retT 0 100000 h (by kernel_rfl)
      ·
        refine W.no 0 100000 (by kernel_rfl) ?_
        refine W.no 0 100000 (by kernel_rfl) ?_
        refine W.no 0 100000 (by kernel_rfl) ?_
        exact W.retT 0 100000 h (by kernel_rfl)
    ·
      refine W.no 0 100000 (by kernel_rfl) ?_
      refine W.no 0 100000 (by kernel_rfl) ?_
      refine W.no 0 100000 (by kernel_rfl) ?_
      refine W.no 0 100000 (by kernel_rfl) ?_
      refine W.no 0 100000 (by kernel_rfl) ?_
      exact W.retT 0 100000 h (by kernel_rfl)
  ·
    refine W.no 0 100000 (by kernel_rfl) ?_
    refine W.no 0 100000 (by kernel_rfl) ?_
    refine W.no 0 100000 (by kernel_rfl) ?_
    refine W.no 0 100000 (by kernel_rfl) ?_
    refine W.no 0 100000 (by kernel_rfl) ?_
    refine W.no 0 100000 (by kernel_rfl) ?_
    refine W.no 0 100000 (by kernel_rfl) ?_
    refine W.no 0 100000 (by kernel_rfl) ?_
    exact W.retT 0 100000 h (by kernel_rfl)

theorem cellarerlaw02_PathCleans_con {s_416 : List UInt8} {r : Bool} (h : cellarerlaw02_PathCleans s_416 = some r) : Con Go.Proofs.Tryd.prog 3 [AV.str s_416] [] (cellarerlaw02_PathCleans_res r) (cellarerlaw02_PathCleans_out r) := by
  refine W.con (by kernel_rfl) ?_
  unfold cellarerlaw02_PathCleans at h
  refine W.cond 0 100000 h (by kernel_rfl) (fun h => ?_) (fun h => ?_)
  ·
    refine W.bind h fun a_417 ha_417 h => ?_
    refine W.call 0 100000 (by kernel_rfl) (cellarerlaw02_awake_con ha_417) (by kernel_rfl) ?_
    exact W.retT 0 100000 h (by kernel_rfl)
  ·
    refine W.bind h fun a_418 ha_418 h => ?_
    refine W.call 0 100000 (by kernel_rfl) (path_Clean_con ha_418) (by kernel_rfl) ?_
    refine W.bind h fun a_419 ha_419 h => ?_
    refine W.call 0 100000 (by kernel_rfl) (cellarerref02_Clean_con ha_419) (by kernel_rfl) ?_
    refine W.join (fun t => (Sum.elim (fun t_422 => r = (Bool.false)) (fun t_423 => Walk Go.Proofs.Tryd.prog 3 (Cfg.mk Mode.run (seqTodo Go.Proofs.Tryd.prog 3 6) (St.mk [jj, jj, jj, AV.str (Prod.fst a_418), AV.int IntKind.i64 (Prod.snd a_418), jj, jj, jj, jj, jj, jj, jj, jj, jj, jj, jj, jj, jj, jj, jj, jj, jj, jj, jj, jj, jj, jj, jj, jj, jj, jj, jj, jj, jj, jj, jj, jj, jj, jj, jj, jj, jj, jj, jj, jj] [] (0 : Nat))) (cellarerlaw02_PathCleans_res r) (cellarerlaw02_PathCleans_out r))) t) h (fun t h => ?_) (fun t428 h428 K428 => ?_)
    ·
      rcases t with t_422 | t_423
      · replace h := W.inl (h)
        refine W.elimL (?_)
        exact (Option.some.inj h).symm
      · replace h := W.inr (h)
        refine W.elimR (?_)
        refine W.cond 0 100000 h (by kernel_rfl) (fun h => ?_) (fun h => ?_)
        ·
          refine W.yes 0 100000 (by kernel_rfl) ?_
          refine W.yes 0 100000 (by kernel_rfl) ?_
          refine W.yes 0 100000 (by kernel_rfl) ?_
          refine W.bind h fun a_424 ha_424 h => ?_
          refine W.call 0 100000 (by kernel_rfl) (cellarerlaw02_awake_con ha_424) (by kernel_rfl) ?_
          refine W.yes 0 100000 (by kernel_rfl) ?_
          exact W.retT 0 100000 h (by kernel_rfl)
        ·
          refine W.no 0 100000 (by kernel_rfl) ?_
          refine W.bind h fun a_425 ha_425 h => ?_
          refine W.call 0 100000 (by kernel_rfl) (path_Right_con ha_425) (by kernel_rfl) ?_
          refine W.no 0 100000 (by kernel_rfl) ?_
          refine W.cond 0 100000 h (by kernel_rfl) (fun h => ?_) (fun h => ?_)
          ·
            refine W.bind h fun a_426 ha_426 h => ?_
            refine W.call 0 100000 (by kernel_rfl) (cellarerlaw02_awake_con ha_426) (by kernel_rfl) ?_
            refine W.yes 0 100000 (by kernel_rfl) ?_
            exact W.retT 0 100000 h (by kernel_rfl)
          ·
            refine W.no 0 100000 (by kernel_rfl) ?_
            exact W.retT 0 100000 h (by kernel_rfl)
    · refine W.next 0 7 (by kernel_rfl) ?_
      refine W.cond 1 100000 h428 (by kernel_rfl) (fun h428 => ?_) (fun h428 => ?_)
      ·
        refine W.yes 1 100000 (by kernel_rfl) ?_
        refine W.yes 1 100000 (by kernel_rfl) ?_
        refine W.yes 1 100000 (by kernel_rfl) ?_
        refine W.yes 1 100000 (by kernel_rfl) ?_
        refine W.yes 1 100000 (by kernel_rfl) ?_
        refine W.yes 1 100000 (by kernel_rfl) ?_
        refine W.yes 1 100000 (by kernel_rfl) ?_
        refine W.yes 1 100000 (by kernel_rfl) ?_
        refine W.yes 1 100000 (by kernel_rfl) ?_
        refine W.yes 1 100000 (by kernel_rfl) ?_
        cases h428; exact W.retK 1 100000 K428 (by kernel_rfl)
      ·
        refine W.no 1 100000 (by kernel_rfl) ?_
        refine W.no 1 100000 (by kernel_rfl) ?_
        refine W.no 1 100000 (by kernel_rfl) ?_
        refine W.cond 1 100000 h428 (by kernel_rfl) (fun h428 => ?_) (fun h428 => ?_)
        ·
          refine W.yes 1 100000 (by kernel_rfl) ?_
          refine W.yes 1 100000 (by kernel_rfl) ?_
          refine W.yes 1 100000 (by kernel_rfl) ?_
          refine W.yes 1 100000 (by kernel_rfl) ?_
          refine W.yes 1 100000 (by kernel_rfl) ?_
          refine W.yes 1 100000 (by kernel_rfl) ?_
          cases h428; exact W.retK 1 100000 K428 (by kernel_rfl)
        ·
          refine W.no 1 100000 (by kernel_rfl) ?_
          refine W.bind h428 fun a_420 ha_420 h428 => ?_
          refine W.call 1 100000 (by kernel_rfl) (path_Right_con ha_420) (by kernel_rfl) ?_
          refine W.no 1 100000 (by kernel_rfl) ?_
          refine W.no 1 100000 (by kernel_rfl) ?_
          refine W.bind h428 fun a_421 ha_421 h428 => ?_
          refine W.call 1 100000 (by kernel_rfl) (cellarerref02_Right_con ha_421) (by kernel_rfl) ?_
          refine W.no 1 100000 (by kernel_rfl) ?_
          refine W.no 1 100000 (by kernel_rfl) ?_
          refine W.cond 1 100000 h428 (by kernel_rfl) (fun h428 => ?_) (fun h428 => ?_)
          ·
            cases h428; exact W.retK 1 100000 K428 (by kernel_rfl)
          ·
            cases h428; exact W.at 1 100000 [] [3, 4] (by kernel_rfl) K428

theorem cellarerlaw02_PathNames_con {s_431 : List UInt8} {r : Bool} (h : cellarerlaw02_PathNames s_431 = some r) : Con Go.Proofs.Tryd.prog 4 [AV.str s_431] [] (cellarerlaw02_PathNames_res r) (cellarerlaw02_PathNames_out r) := by
  refine W.con (by kernel_rfl) ?_
  unfold cellarerlaw02_PathNames at h
  refine W.cond 0 100000 h (by kernel_rfl) (fun h => ?_) (fun h => ?_)
  ·
    refine W.bind h fun a_432 ha_432 h => ?_
    refine W.call 0 100000 (by kernel_rfl) (cellarerlaw02_awake_con ha_432) (by kernel_rfl) ?_
    exact W.retT 0 100000 h (by kernel_rfl)
  ·
    refine W.bind h fun a_433 ha_433 h => ?_
    refine W.call 0 100000 (by kernel_rfl) (path_Name_con ha_433) (by kernel_rfl) ?_
    refine W.bind h fun a_434 ha_434 h => ?_
    refine W.call 0 100000 (by kernel_rfl) (cellarerref02_Name_con ha_434) (by kernel_rfl) ?_
    refine W.cond 0 100000 h (by kernel_rfl) (fun h => ?_) (fun h => ?_)
    ·
      refine W.bind h fun a_435 ha_435 h => ?_
      refine W.call 0 100000 (by kernel_rfl) (cellarerlaw02_awake_con ha_435) (by kernel_rfl) ?_
      refine W.yes 0 100000 (by kernel_rfl) ?_
      exact W.retT 0 100000 h (by kernel_rfl)
    ·
      refine W.no 0 100000 (by kernel_rfl) ?_
      exact W.retT 0 100000 h (by kernel_rfl)

theorem cellarerlaw02_PathUnder_con {dir_440 : List UInt8} {s_441 : List UInt8} {r : Bool} (h : cellarerlaw02_PathUnder dir_440 s_441 = some r) : Con Go.Proofs.Tryd.prog 5 [AV.str dir_440, AV.str s_441] [] (cellarerlaw02_PathUnder_res r) (cellarerlaw02_PathUnder_out r) := by
  refine W.con (by kernel_rfl) ?_
  unfold cellarerlaw02_PathUnder at h
  refine W.join (fun t => (Sum.elim (fun t_445 => r = (t_445)) (fun t_446 => Walk Go.Proofs.Tryd.prog 5 (Cfg.mk Mode.run (seqTodo Go.Proofs.Tryd.prog 5 1) (St.mk [AV.str dir_440, AV.str s_441, jj, jj, jj, jj, jj, jj, jj, jj, jj, jj, jj, jj, jj, jj, jj, jj, jj, jj, jj, jj, jj, jj, jj, jj, jj, jj, jj, jj, jj, jj, jj, jj, jj, jj, jj, jj, jj, jj, jj, jj] [] (0 : Nat))) (cellarerlaw02_PathUnder_res r) (cellarerlaw02_PathUnder_out r))) t) h (fun t h => ?_) (fun t454 h454 K454 => ?_)
  ·
    rcases t with t_445 | t_446
    · replace h := W.inl (h)
      refine W.elimL (?_)
      exact (Option.some.inj h).symm
    · replace h := W.inr (h)
      refine W.elimR (?_)
      refine W.bind h fun a_447 ha_447 h => ?_
      refine W.call 0 100000 (by kernel_rfl) (path_Under_con ha_447) (by kernel_rfl) ?_
      refine W.bind h fun a_448 ha_448 h => ?_
      refine W.call 0 100000 (by kernel_rfl) (cellarerref02_Under_con ha_448) (by kernel_rfl) ?_
      refine W.cond 0 100000 h (by kernel_rfl) (fun h => ?_) (fun h => ?_)
      ·
        refine W.yes 0 100000 (by kernel_rfl) ?_
        refine W.yes 0 100000 (by kernel_rfl) ?_
        refine W.bind h fun a_449 ha_449 h => ?_
        refine W.call 0 100000 (by kernel_rfl) (path_Under_con ha_449) (by kernel_rfl) ?_
        refine W.yes 0 100000 (by kernel_rfl) ?_
        refine W.yes 0 100000 (by kernel_rfl) ?_
        refine W.cond 0 100000 h (by kernel_rfl) (fun h => ?_) (fun h => ?_)
        ·
          refine W.yes 0 100000 (by kernel_rfl) ?_
          refine W.yes 0 100000 (by kernel_rfl) ?_
          refine W.cond 0 100000 h (by kernel_rfl) (fun h => ?_) (fun h => ?_)
          ·
            refine W.yes 0 100000 (by kernel_rfl) ?_
            refine W.yes 0 100000 (by kernel_rfl) ?_
            refine W.yes 0 100000 (by kernel_rfl) ?_
            refine W.yes 0 100000 (by kernel_rfl) ?_
            refine W.yes 0 100000 (by kernel_rfl) ?_
            refine W.yes 0 100000 (by kernel_rfl) ?_
            refine W.yes 0 100000 (by kernel_rfl) ?_
            refine W.bind h fun a_450 ha_450 h => ?_
            refine W.call 0 100000 (by kernel_rfl) (cellarerlaw02_awake_con ha_450) (by kernel_rfl) ?_
            refine W.yes 0 100000 (by kernel_rfl) ?_
            exact W.retT 0 100000 h (by kernel_rfl)
          ·
            refine W.no 0 100000 (by kernel_rfl) ?_
            refine W.no 0 100000 (by kernel_rfl) ?_
            refine W.bind h fun a_451 ha_451 h => ?_
            refine W.call 0 100000 (by kernel_rfl) (path_Under_con ha_451) (by kernel_rfl) ?_
            refine W.no 0 100000 (by kernel_rfl) ?_
            refine W.yes 0 100000 (by kernel_rfl) ?_
            refine W.no 0 100000 (by kernel_rfl) ?_
            refine W.yes 0 100000 (by kernel_rfl) ?_
            refine W.cond 0 100000 h (by kernel_rfl) (fun h => ?_) (fun h => ?_)
            ·
              refine W.bind h fun a_452 ha_452 h => ?_
              refine W.call 0 100000 (by kernel_rfl) (cellarerlaw02_awake_con ha_452) (by kernel_rfl) ?_
              refine W.yes 0 100000 (by kernel_rfl) ?_
              exact W.retT 0 100000 h (by kernel_rfl)
            ·
              refine W.no 0 100000 (by kernel_rfl) ?_
              exact W.retT 0 100000 h (by kernel_rfl)
        ·
          refine W.no 0 100000 (by kernel_rfl) ?_
          refine W.no 0 100000 (by kernel_rfl) ?_
          refine W.no 0 100000 (by kernel_rfl) ?_
          refine W.no 0 100000 (by kernel_rfl) ?_
          refine W.no 0 100000 (by kernel_rfl) ?_
          refine W.no 0 100000 (by kernel_rfl) ?_
          exact W.retT 0 100000 h (by kernel_rfl)
      ·
        refine W.no 0 100000 (by kernel_rfl) ?_
        refine W.no 0 100000 (by kernel_rfl) ?_
        refine W.no 0 100000 (by kernel_rfl) ?_
        refine W.no 0 100000 (by kernel_rfl) ?_
        refine W.no 0 100000 (by kernel_rfl) ?_
        refine W.no 0 100000 (by kernel_rfl) ?_
        refine W.no 0 100000 (by kernel_rfl) ?_
        refine W.no 0 100000 (by kernel_rfl) ?_
        refine W.no 0 100000 (by kernel_rfl) ?_
        refine W.no 0 100000 (by kernel_rfl) ?_
        refine W.no 0 100000 (by kernel_rfl) ?_
        exact W.retT 0 100000 h (by kernel_rfl)
  · refine W.next 0 5 (by kernel_rfl) ?_
    refine W.cond 1 100000 h454 (by kernel_rfl) (fun h454 => ?_) (fun h454 => ?_)
    ·
      refine W.yes 1 100000 (by kernel_rfl) ?_
      refine W.yes 1 100000 (by kernel_rfl) ?_
      refine W.yes 1 100000 (by kernel_rfl) ?_
      refine W.yes 1 100000 (by kernel_rfl) ?_
      refine W.bind h454 fun a_442 ha_442 h454 => ?_
      refine W.call 1 100000 (by kernel_rfl) (cellarerlaw02_awake_con ha_442) (by kernel_rfl) ?_
      cases h454; exact W.retK 1 100000 K454 (by kernel_rfl)
    ·
      refine W.no 1 100000 (by kernel_rfl) ?_
      refine W.no 1 100000 (by kernel_rfl) ?_
      refine W.no 1 100000 (by kernel_rfl) ?_
      refine W.cond 1 100000 h454 (by kernel_rfl) (fun h454 => ?_) (fun h454 => ?_)
      ·
        refine W.bind h454 fun a_443 ha_443 h454 => ?_
        refine W.call 1 100000 (by kernel_rfl) (cellarerlaw02_awake_con ha_443) (by kernel_rfl) ?_
        cases h454; exact W.retK 1 100000 K454 (by kernel_rfl)
      ·
        cases h454; exact W.at 1 100000 [] [0, 1] (by kernel_rfl) K454

theorem cellarerlaw02_PathParts_con {s_457 : List UInt8} {r : Bool} (h : cellarerlaw02_PathParts s_457 = some r) : Con Go.Proofs.Tryd.prog 6 [AV.str s_457] [] (cellarerlaw02_PathParts_res r) (cellarerlaw02_PathParts_out r) := by
  refine W.con (by kernel_rfl) ?_
  unfold cellarerlaw02_PathParts at h
  refine W.cond 0 100000 h (by kernel_rfl) (fun h => ?_) (fun h => ?_)
  ·
    refine W.bind h fun a_458 ha_458 h => ?_
    refine W.call 0 100000 (by kernel_rfl) (cellarerlaw02_awake_con ha_458) (by kernel_rfl) ?_
    exact W.retT 0 100000 h (by kernel_rfl)
  ·
    refine W.bind h fun a_459 ha_459 h => ?_
    refine W.call 0 100000 (by kernel_rfl) (path_Parents_con ha_459) (by kernel_rfl) ?_
    refine W.join (fun t => (Sum.elim (fun t_465 => r = (Bool.false)) (fun t_466 => Walk Go.Proofs.Tryd.prog 6 (Cfg.mk Mode.run (seqTodo Go.Proofs.Tryd.prog 6 5) (St.mk [AV.str s_457, jj, jj, AV.view (0 : Nat) (0 : Nat) Option.none, jj, jj, jj, jj, jj, jj, jj, jj, jj, jj, jj, jj, jj, jj, jj, jj, jj, jj, jj, jj, jj, jj, jj, jj, jj, jj, jj, jj, jj, jj, jj, jj, jj, jj, jj, jj, jj, jj, jj, jj, jj, jj, jj, jj, jj, jj, jj, jj, jj, jj, jj, jj, jj, jj, jj, jj, jj, jj] [AO.row Ty.str a_459] (0 : Nat))) (cellarerlaw02_PathParts_res r) (cellarerlaw02_PathParts_out r))) t) h (fun t h => ?_) (fun t482 h482 K482 => ?_)
    ·
      rcases t with t_465 | t_466
      · replace h := W.inl (h)
        refine W.elimL (?_)
        exact (Option.some.inj h).symm
      · replace h := W.inr (h)
        refine W.elimR (?_)
        refine W.at 0 100000 [] [0, 3, 4] (c' := (fun (s_485 : Int) => (Cfg.mk Mode.run (headTodo Go.Proofs.Tryd.prog 6 0) (St.mk [AV.str s_457, jj, jj, AV.view (0 : Nat) (0 : Nat) Option.none, AV.int IntKind.i64 s_485, jj, jj, jj, jj, jj, jj, jj, jj, jj, jj, jj, jj, jj, jj, jj, jj, jj, jj, jj, jj, jj, jj, jj, jj, jj, jj, jj, jj, jj, jj, jj, jj, jj, jj, jj, jj, jj, jj, jj, jj, jj, jj, jj, jj, jj, jj, jj, jj, jj, jj, jj, jj, jj, jj, jj, jj, jj] [AO.row Ty.str a_459] (0 : Nat)))) ((0 : Int))) (by kernel_rfl) ?_
        refine W.loop (fun (s_485 : Int) => (Cfg.mk Mode.run (headTodo Go.Proofs.Tryd.prog 6 0) (St.mk [AV.str s_457, jj, jj, AV.view (0 : Nat) (0 : Nat) Option.none, AV.int IntKind.i64 s_485, jj, jj, jj, jj, jj, jj, jj, jj, jj, jj, jj, jj, jj, jj, jj, jj, jj, jj, jj, jj, jj, jj, jj, jj, jj, jj, jj, jj, jj, jj, jj, jj, jj, jj, jj, jj, jj, jj, jj, jj, jj, jj, jj, jj, jj, jj, jj, jj, jj, jj, jj, jj, jj, jj, jj, jj, jj] [AO.row Ty.str a_459] (0 : Nat)))) (fun t => (Sum.elim (fun t_473 => r = (Bool.false)) (fun t_474 => Walk Go.Proofs.Tryd.prog 6 (Cfg.mk Mode.run ((headTodo Go.Proofs.Tryd.prog 6 0).drop 3) (St.mk [AV.str s_457, jj, jj, jj, jj, jj, jj, jj, jj, jj, jj, jj, jj, jj, jj, jj, jj, jj, jj, jj, jj, jj, jj, jj, jj, jj, jj, jj, jj, jj, jj, jj, jj, jj, jj, jj, jj, jj, jj, jj, jj, jj, jj, jj, jj, jj, jj, jj, jj, jj, jj, jj, jj, jj, jj, jj, jj, jj, jj, jj, jj, jj] [] (0 : Nat))) (cellarerlaw02_PathParts_res r) (cellarerlaw02_PathParts_out r))) t) h (fun t h => ?_) (fun s_485 x481 h481 K481 => ?_)
        ·
          rcases t with t_473 | t_474
          · replace h := W.inl (h)
            refine W.elimL (?_)
            exact (Option.some.inj h).symm
          · replace h := W.inr (h)
            refine W.elimR (?_)
            refine W.bind h fun a_475 ha_475 h => ?_
            refine W.call 0 100000 (by kernel_rfl) (path_Right_con ha_475) (by kernel_rfl) ?_
            refine W.cond 0 100000 h (by kernel_rfl) (fun h => ?_) (fun h => ?_)
            ·
              refine W.yes 0 100000 (by kernel_rfl) ?_
              refine W.yes 0 100000 (by kernel_rfl) ?_
              refine W.yes 0 100000 (by kernel_rfl) ?_
              refine W.yes 0 100000 (by kernel_rfl) ?_
              refine W.yes 0 100000 (by kernel_rfl) ?_
              refine W.yes 0 100000 (by kernel_rfl) ?_
              refine W.bind h fun a_476 ha_476 h => ?_
              refine W.call 0 100000 (by kernel_rfl) (cellarerlaw02_awake_con ha_476) (by kernel_rfl) ?_
              refine W.yes 0 100000 (by kernel_rfl) ?_
              exact W.retT 0 100000 h (by kernel_rfl)
            ·
              refine W.no 0 100000 (by kernel_rfl) ?_
              refine W.bind h fun a_477 ha_477 h => ?_
              refine W.call 0 100000 (by kernel_rfl) (path_Parts_con ha_477) (by kernel_rfl) ?_
              refine W.no 0 100000 (by kernel_rfl) ?_
              refine W.bind h fun a_478 ha_478 h => ?_
              refine W.call 0 100000 (by kernel_rfl) (cellarerref02_Joined_con ha_478) (by kernel_rfl) ?_
              refine W.no 0 100000 (by kernel_rfl) ?_
              refine W.no 0 100000 (by kernel_rfl) ?_
              refine W.no 0 100000 (by kernel_rfl) ?_
              refine W.cond 0 100000 h (by kernel_rfl) (fun h => ?_) (fun h => ?_)
              ·
                refine W.bind h fun a_479 ha_479 h => ?_
                refine W.call 0 100000 (by kernel_rfl) (cellarerlaw02_awake_con ha_479) (by kernel_rfl) ?_
                refine W.yes 0 100000 (by kernel_rfl) ?_
                exact W.retT 0 100000 h (by kernel_rfl)
              ·
                refine W.no 0 100000 (by kernel_rfl) ?_
                exact W.retT 0 100000 h (by kernel_rfl)
        · unfold cellarerlaw02_PathParts_b0 at h481
          refine W.cond 2 100000 h481 (by kernel_rfl) (fun h481 => ?_) (fun h481 => ?_)
          ·
            refine W.bind h481 fun a_470 ha_470 h481 => ?_
            refine W.call 2 100000 (by kernel_rfl) (path_Right_con ha_470) (by kernel_rfl) ?_
            refine W.cond 2 100000 h481 (by kernel_rfl) (fun h481 => ?_) (fun h481 => ?_)
            ·
              refine W.yes 2 100000 (by kernel_rfl) ?_
              refine W.yes 2 100000 (by kernel_rfl) ?_
              refine W.needT 2 100000 h481 (by kernel_rfl) (fun h481 => ?_)
              refine W.yes 2 100000 (by kernel_rfl) ?_
              refine W.needT 2 100000 h481 (by kernel_rfl) (fun h481 => ?_)
              refine W.yes 2 100000 (by kernel_rfl) ?_
              refine W.bind h481 fun a_471 ha_471 h481 => ?_
              refine W.call 2 100000 (by kernel_rfl) (path_Right_con ha_471) (by kernel_rfl) ?_
              refine W.yes 2 100000 (by kernel_rfl) ?_
              refine W.yes 2 100000 (by kernel_rfl) ?_
              refine W.cond 2 100000 h481 (by kernel_rfl) (fun h481 => ?_) (fun h481 => ?_)
              ·
                refine W.yes 2 100000 (by kernel_rfl) ?_
                refine W.yes 2 100000 (by kernel_rfl) ?_
                refine W.yes 2 100000 (by kernel_rfl) ?_
                refine W.yes 2 100000 (by kernel_rfl) ?_
                refine W.yes 2 100000 (by kernel_rfl) ?_
                refine W.yes 2 100000 (by kernel_rfl) ?_
                refine W.yes 2 100000 (by kernel_rfl) ?_
                refine W.yes 2 100000 (by kernel_rfl) ?_
                refine W.yes 2 100000 (by kernel_rfl) ?_
                refine W.yes 2 100000 (by kernel_rfl) ?_
                cases h481; exact W.retK 2 100000 K481 (by kernel_rfl)
              ·
                refine W.no 2 100000 (by kernel_rfl) ?_
                refine W.no 2 100000 (by kernel_rfl) ?_
                refine W.needT 2 100000 h481 (by kernel_rfl) (fun h481 => ?_)
                refine W.no 2 100000 (by kernel_rfl) ?_
                refine W.needT 2 100000 h481 (by kernel_rfl) (fun h481 => ?_)
                refine W.no 2 100000 (by kernel_rfl) ?_
                refine W.no 2 100000 (by kernel_rfl) ?_
                refine W.bind h481 fun a_472 ha_472 h481 => ?_
                refine W.call 2 100000 (by kernel_rfl) (path_Under_con ha_472) (by kernel_rfl) ?_
                refine W.no 2 100000 (by kernel_rfl) ?_
                refine W.yes 2 100000 (by kernel_rfl) ?_
                refine W.no 2 100000 (by kernel_rfl) ?_
                refine W.yes 2 100000 (by kernel_rfl) ?_
                refine W.cond 2 100000 h481 (by kernel_rfl) (fun h481 => ?_) (fun h481 => ?_)
                ·
                  cases h481; exact W.retK 2 100000 K481 (by kernel_rfl)
                ·
                  cases h481; exact W.at 2 100000 [] [0, 3, 4] (by kernel_rfl) K481
            ·
              refine W.no 2 100000 (by kernel_rfl) ?_
              refine W.no 2 100000 (by kernel_rfl) ?_
              refine W.no 2 100000 (by kernel_rfl) ?_
              refine W.no 2 100000 (by kernel_rfl) ?_
              refine W.no 2 100000 (by kernel_rfl) ?_
              refine W.no 2 100000 (by kernel_rfl) ?_
              refine W.no 2 100000 (by kernel_rfl) ?_
              refine W.no 2 100000 (by kernel_rfl) ?_
              refine W.no 2 100000 (by kernel_rfl) ?_
              cases h481; exact W.at 2 100000 [] [0, 3, 4] (by kernel_rfl) K481
          ·
            cases h481; exact W.at 2 100000 [] [0] (by kernel_rfl) K481
    · refine W.next 0 3 (by kernel_rfl) ?_
      refine W.bind h482 fun a_460 ha_460 h482 => ?_
      refine W.call 1 100000 (by kernel_rfl) (path_Parts_con ha_460) (by kernel_rfl) ?_
      refine W.bind h482 fun a_461 ha_461 h482 => ?_
      refine W.call 1 100000 (by kernel_rfl) (cellarerref02_Parts_con ha_461) (by kernel_rfl) ?_
      refine W.bind h482 fun a_462 ha_462 h482 => ?_
      refine W.call 1 100000 (by kernel_rfl) (cellarerref02_Same_con ha_462) (by kernel_rfl) ?_
      refine W.cond 1 100000 h482 (by kernel_rfl) (fun h482 => ?_) (fun h482 => ?_)
      ·
        refine W.yes 1 100000 (by kernel_rfl) ?_
        refine W.yes 1 100000 (by kernel_rfl) ?_
        refine W.yes 1 100000 (by kernel_rfl) ?_
        refine W.yes 1 100000 (by kernel_rfl) ?_
        refine W.yes 1 100000 (by kernel_rfl) ?_
        refine W.yes 1 100000 (by kernel_rfl) ?_
        cases h482; exact W.retK 1 100000 K482 (by kernel_rfl)
      ·
        refine W.no 1 100000 (by kernel_rfl) ?_
        refine W.no 1 100000 (by kernel_rfl) ?_
        refine W.bind h482 fun a_463 ha_463 h482 => ?_
        refine W.call 1 100000 (by kernel_rfl) (cellarerref02_Parents_con ha_463) (by kernel_rfl) ?_
        refine W.no 1 100000 (by kernel_rfl) ?_
        refine W.bind h482 fun a_464 ha_464 h482 => ?_
        refine W.call 1 100000 (by kernel_rfl) (cellarerref02_Same_con ha_464) (by kernel_rfl) ?_
        refine W.no 1 100000 (by kernel_rfl) ?_
        refine W.no 1 100000 (by kernel_rfl) ?_
        refine W.cond 1 100000 h482 (by kernel_rfl) (fun h482 => ?_) (fun h482 => ?_)
        ·
          cases h482; exact W.retK 1 100000 K482 (by kernel_rfl)
        ·
          cases h482; exact W.at 1 100000 [] [0, 3] (by kernel_rfl) K482

theorem cellarerlaw02_PathSplits_con {s_489 : List UInt8} {dir_490 : List UInt8} {name_491 : List UInt8} {r : Bool} (h : cellarerlaw02_PathSplits s_489 dir_490 name_491 = some r) : Con Go.Proofs.Tryd.prog 7 [AV.str s_489, AV.str dir_490, AV.str name_491] [] (cellarerlaw02_PathSplits_res r) (cellarerlaw02_PathSplits_out r) := by
  refine W.con (by kernel_rfl) ?_
  unfold cellarerlaw02_PathSplits at h
  refine W.join (fun t => (Sum.elim (fun t_496 => r = (t_496)) (fun t_497 => Walk Go.Proofs.Tryd.prog 7 (Cfg.mk Mode.run (seqTodo Go.Proofs.Tryd.prog 7 1) (St.mk [AV.str s_489, AV.str dir_490, AV.str name_491, jj, jj, jj, jj, jj, jj, jj, jj, jj, jj, jj, jj, jj, jj, jj, jj, jj, jj, jj, jj, jj, jj, jj, jj, jj, jj, jj, jj, jj, jj, jj, jj, jj, jj, jj, jj, jj, jj, jj, jj, jj, jj, jj, jj, jj, jj, jj, jj, jj, jj, jj, jj, jj, jj, jj, jj, jj, jj, jj, jj, jj, jj] [] (0 : Nat))) (cellarerlaw02_PathSplits_res r) (cellarerlaw02_PathSplits_out r))) t) h (fun t h => ?_) (fun t510 h510 K510 => ?_)
  ·
    rcases t with t_496 | t_497
    · replace h := W.inl (h)
      refine W.elimL (?_)
      exact (Option.some.inj h).symm
    · replace h := W.inr (h)
      refine W.elimR (?_)
      refine W.bind h fun a_498 ha_498 h => ?_
      refine W.call 0 100000 (by kernel_rfl) (path_Split_con ha_498) (by kernel_rfl) ?_
      refine W.bind h fun a_499 ha_499 h => ?_
      refine W.call 0 100000 (by kernel_rfl) (cellarerref02_Split_con ha_499) (by kernel_rfl) ?_
      refine W.join (fun t => (Sum.elim (fun t_502 => r = (Bool.false)) (fun t_503 => Walk Go.Proofs.Tryd.prog 7 (Cfg.mk Mode.run (seqTodo Go.Proofs.Tryd.prog 7 6) (St.mk [AV.str s_489, jj, jj, jj, jj, jj, jj, AV.str (Prod.fst a_498), AV.str (Prod.snd a_498), jj, jj, jj, jj, jj, jj, jj, jj, jj, jj, jj, jj, jj, jj, jj, jj, jj, jj, jj, jj, jj, jj, jj, jj, jj, jj, jj, jj, jj, jj, jj, jj, jj, jj, jj, jj, jj, jj, jj, jj, jj, jj, jj, jj, jj, jj, jj, jj, jj, jj, jj, jj, jj, jj, jj, jj] [] (0 : Nat))) (cellarerlaw02_PathSplits_res r) (cellarerlaw02_PathSplits_out r))) t) h (fun t h => ?_) (fun t509 h509 K509 => ?_)
      ·
        rcases t with t_502 | t_503
        · replace h := W.inl (h)
          refine W.elimL (?_)
          exact (Option.some.inj h).symm
        · replace h := W.inr (h)
          refine W.elimR (?_)
          refine W.bind h fun a_504 ha_504 h => ?_
          refine W.call 0 100000 (by kernel_rfl) (path_Right_con ha_504) (by kernel_rfl) ?_
          refine W.cond 0 100000 h (by kernel_rfl) (fun h => ?_) (fun h => ?_)
          ·
            refine W.yes 0 100000 (by kernel_rfl) ?_
            refine W.yes 0 100000 (by kernel_rfl) ?_
            refine W.yes 0 100000 (by kernel_rfl) ?_
            refine W.yes 0 100000 (by kernel_rfl) ?_
            refine W.yes 0 100000 (by kernel_rfl) ?_
            refine W.yes 0 100000 (by kernel_rfl) ?_
            refine W.bind h fun a_505 ha_505 h => ?_
            refine W.call 0 100000 (by kernel_rfl) (cellarerlaw02_awake_con ha_505) (by kernel_rfl) ?_
            refine W.yes 0 100000 (by kernel_rfl) ?_
            exact W.retT 0 100000 h (by kernel_rfl)
          ·
            refine W.no 0 100000 (by kernel_rfl) ?_
            refine W.no 0 100000 (by kernel_rfl) ?_
            refine W.bind h fun a_506 ha_506 h => ?_
            refine W.call 0 100000 (by kernel_rfl) (path_Join_con ha_506) (by kernel_rfl) ?_
            refine W.no 0 100000 (by kernel_rfl) ?_
            refine W.no 0 100000 (by kernel_rfl) ?_
            refine W.no 0 100000 (by kernel_rfl) ?_
            refine W.cond 0 100000 h (by kernel_rfl) (fun h => ?_) (fun h => ?_)
            ·
              refine W.bind h fun a_507 ha_507 h => ?_
              refine W.call 0 100000 (by kernel_rfl) (cellarerlaw02_awake_con ha_507) (by kernel_rfl) ?_
              refine W.yes 0 100000 (by kernel_rfl) ?_
              exact W.retT 0 100000 h (by kernel_rfl)
            ·
              refine W.no 0 100000 (by kernel_rfl) ?_
              exact W.retT 0 100000 h (by kernel_rfl)
      · refine W.next 0 7 (by kernel_rfl) ?_
        refine W.cond 1 100000 h509 (by kernel_rfl) (fun h509 => ?_) (fun h509 => ?_)
        ·
          refine W.yes 1 100000 (by kernel_rfl) ?_
          refine W.yes 1 100000 (by kernel_rfl) ?_
          refine W.yes 1 100000 (by kernel_rfl) ?_
          refine W.yes 1 100000 (by kernel_rfl) ?_
          refine W.yes 1 100000 (by kernel_rfl) ?_
          refine W.yes 1 100000 (by kernel_rfl) ?_
          refine W.yes 1 100000 (by kernel_rfl) ?_
          refine W.yes 1 100000 (by kernel_rfl) ?_
          refine W.yes 1 100000 (by kernel_rfl) ?_
          refine W.yes 1 100000 (by kernel_rfl) ?_
          refine W.yes 1 100000 (by kernel_rfl) ?_
          refine W.yes 1 100000 (by kernel_rfl) ?_
          cases h509; exact W.retK 1 100000 K509 (by kernel_rfl)
        ·
          refine W.no 1 100000 (by kernel_rfl) ?_
          refine W.no 1 100000 (by kernel_rfl) ?_
          refine W.no 1 100000 (by kernel_rfl) ?_
          refine W.cond 1 100000 h509 (by kernel_rfl) (fun h509 => ?_) (fun h509 => ?_)
          ·
            refine W.yes 1 100000 (by kernel_rfl) ?_
            refine W.yes 1 100000 (by kernel_rfl) ?_
            refine W.yes 1 100000 (by kernel_rfl) ?_
            refine W.yes 1 100000 (by kernel_rfl) ?_
            refine W.yes 1 100000 (by kernel_rfl) ?_
            refine W.yes 1 100000 (by kernel_rfl) ?_
            refine W.yes 1 100000 (by kernel_rfl) ?_
            refine W.yes 1 100000 (by kernel_rfl) ?_
            cases h509; exact W.retK 1 100000 K509 (by kernel_rfl)
          ·
            refine W.no 1 100000 (by kernel_rfl) ?_
            refine W.no 1 100000 (by kernel_rfl) ?_
            refine W.bind h509 fun a_500 ha_500 h509 => ?_
            refine W.call 1 100000 (by kernel_rfl) (path_Join_con ha_500) (by kernel_rfl) ?_
            refine W.no 1 100000 (by kernel_rfl) ?_
            refine W.no 1 100000 (by kernel_rfl) ?_
            refine W.no 1 100000 (by kernel_rfl) ?_
            refine W.bind h509 fun a_501 ha_501 h509 => ?_
            refine W.call 1 100000 (by kernel_rfl) (cellarerref02_Join_con ha_501) (by kernel_rfl) ?_
            refine W.no 1 100000 (by kernel_rfl) ?_
            refine W.no 1 100000 (by kernel_rfl) ?_
            refine W.cond 1 100000 h509 (by kernel_rfl) (fun h509 => ?_) (fun h509 => ?_)
            ·
              cases h509; exact W.retK 1 100000 K509 (by kernel_rfl)
            ·
              cases h509; exact W.at 1 100000 [] [0, 7, 8] (by kernel_rfl) K509
  · refine W.next 0 5 (by kernel_rfl) ?_
    refine W.cond 1 100000 h510 (by kernel_rfl) (fun h510 => ?_) (fun h510 => ?_)
    ·
      refine W.yes 1 100000 (by kernel_rfl) ?_
      refine W.yes 1 100000 (by kernel_rfl) ?_
      refine W.yes 1 100000 (by kernel_rfl) ?_
      refine W.yes 1 100000 (by kernel_rfl) ?_
      refine W.yes 1 100000 (by kernel_rfl) ?_
      refine W.yes 1 100000 (by kernel_rfl) ?_
      refine W.yes 1 100000 (by kernel_rfl) ?_
      refine W.yes 1 100000 (by kernel_rfl) ?_
      refine W.bind h510 fun a_492 ha_492 h510 => ?_
      refine W.call 1 100000 (by kernel_rfl) (cellarerlaw02_awake_con ha_492) (by kernel_rfl) ?_
      cases h510; exact W.retK 1 100000 K510 (by kernel_rfl)
    ·
      refine W.no 1 100000 (by kernel_rfl) ?_
      refine W.no 1 100000 (by kernel_rfl) ?_
      refine W.no 1 100000 (by kernel_rfl) ?_
      refine W.cond 1 100000 h510 (by kernel_rfl) (fun h510 => ?_) (fun h510 => ?_)
      ·
        refine W.yes 1 100000 (by kernel_rfl) ?_
        refine W.yes 1 100000 (by kernel_rfl) ?_
        refine W.yes 1 100000 (by kernel_rfl) ?_
        refine W.yes 1 100000 (by kernel_rfl) ?_
        refine W.bind h510 fun a_493 ha_493 h510 => ?_
        refine W.call 1 100000 (by kernel_rfl) (cellarerlaw02_awake_con ha_493) (by kernel_rfl) ?_
        cases h510; exact W.retK 1 100000 K510 (by kernel_rfl)
      ·
        refine W.no 1 100000 (by kernel_rfl) ?_
        refine W.no 1 100000 (by kernel_rfl) ?_
        refine W.no 1 100000 (by kernel_rfl) ?_
        refine W.cond 1 100000 h510 (by kernel_rfl) (fun h510 => ?_) (fun h510 => ?_)
        ·
          refine W.bind h510 fun a_494 ha_494 h510 => ?_
          refine W.call 1 100000 (by kernel_rfl) (cellarerlaw02_awake_con ha_494) (by kernel_rfl) ?_
          cases h510; exact W.retK 1 100000 K510 (by kernel_rfl)
        ·
          cases h510; exact W.at 1 100000 [] [0, 1, 2] (by kernel_rfl) K510

theorem cellarerlaw02_PathSorts_con {l_513 : List (List UInt8)} {r : Bool} (h : cellarerlaw02_PathSorts l_513 = some r) : Con Go.Proofs.Tryd.prog 8 [AV.list Ty.str l_513 Bool.false] [] (cellarerlaw02_PathSorts_res r) (cellarerlaw02_PathSorts_out r) := by
  refine W.con (by kernel_rfl) ?_
  unfold cellarerlaw02_PathSorts at h
  refine W.cond 0 100000 h (by kernel_rfl) (fun h => ?_) (fun h => ?_)
  ·
    refine W.bind h fun a_514 ha_514 h => ?_
    refine W.call 0 100000 (by kernel_rfl) (cellarerlaw02_awake_con ha_514) (by kernel_rfl) ?_
    exact W.retT 0 100000 h (by kernel_rfl)
  ·
    refine W.at 0 100000 [] [0, 3] (c' := (fun (s_538 : Int) => (Cfg.mk Mode.run (headTodo Go.Proofs.Tryd.prog 8 0) (St.mk [AV.list Ty.str l_513 Bool.false, jj, jj, AV.int IntKind.i64 s_538, jj, jj, jj, jj, jj, jj, jj, jj, jj, jj, jj, jj, jj, jj, jj, jj, jj, jj, jj, jj, jj, jj, jj, jj, jj, jj, jj, jj, jj, jj, jj, jj, jj, jj, jj, jj, jj, jj, jj, jj, jj, jj, jj, jj, jj, jj, jj, jj, jj, jj, jj, jj, jj, jj] [] (0 : Nat)))) ((0 : Int))) (by kernel_rfl) ?_
    refine W.loop (fun (s_538 : Int) => (Cfg.mk Mode.run (headTodo Go.Proofs.Tryd.prog 8 0) (St.mk [AV.list Ty.str l_513 Bool.false, jj, jj, AV.int IntKind.i64 s_538, jj, jj, jj, jj, jj, jj, jj, jj, jj, jj, jj, jj, jj, jj, jj, jj, jj, jj, jj, jj, jj, jj, jj, jj, jj, jj, jj, jj, jj, jj, jj, jj, jj, jj, jj, jj, jj, jj, jj, jj, jj, jj, jj, jj, jj, jj, jj, jj, jj, jj, jj, jj, jj, jj] [] (0 : Nat)))) (fun t => (Sum.elim (fun t_519 => r = (t_519)) (fun t_520 => Walk Go.Proofs.Tryd.prog 8 (Cfg.mk Mode.run ((headTodo Go.Proofs.Tryd.prog 8 0).drop 3) (St.mk [AV.list Ty.str l_513 Bool.false, jj, jj, jj, jj, jj, jj, jj, jj, jj, jj, jj, jj, jj, jj, jj, jj, jj, jj, jj, jj, jj, jj, jj, jj, jj, jj, jj, jj, jj, jj, jj, jj, jj, jj, jj, jj, jj, jj, jj, jj, jj, jj, jj, jj, jj, jj, jj, jj, jj, jj, jj, jj, jj, jj, jj, jj, jj] [] (0 : Nat))) (cellarerlaw02_PathSorts_res r) (cellarerlaw02_PathSorts_out r))) t) h (fun t h => ?_) (fun s_538 x534 h534 K534 => ?_)
    ·
      rcases t with t_519 | t_520
      · replace h := W.inl (h)
        refine W.elimL (?_)
        exact (Option.some.inj h).symm
      · replace h := W.inr (h)
        refine W.elimR (?_)
        refine W.bind h fun a_521 ha_521 h => ?_
        refine W.call 0 100000 (by kernel_rfl) (path_Sorted_con ha_521) (by kernel_rfl) ?_
        refine W.at 0 100000 [] [0, 4, 5] (c' := (fun (s_539 : Int) => (Cfg.mk Mode.run (headTodo Go.Proofs.Tryd.prog 8 1) (St.mk [AV.list Ty.str l_513 Bool.false, jj, jj, jj, AV.view (0 : Nat) (0 : Nat) Option.none, AV.int IntKind.i64 s_539, jj, jj, jj, jj, jj, jj, jj, jj, jj, jj, jj, jj, jj, jj, jj, jj, jj, jj, jj, jj, jj, jj, jj, jj, jj, jj, jj, jj, jj, jj, jj, jj, jj, jj, jj, jj, jj, jj, jj, jj, jj, jj, jj, jj, jj, jj, jj, jj, jj, jj, jj, jj] [AO.row Ty.str a_521] (0 : Nat)))) ((0 : Int))) (by kernel_rfl) ?_
        refine W.loop (fun (s_539 : Int) => (Cfg.mk Mode.run (headTodo Go.Proofs.Tryd.prog 8 1) (St.mk [AV.list Ty.str l_513 Bool.false, jj, jj, jj, AV.view (0 : Nat) (0 : Nat) Option.none, AV.int IntKind.i64 s_539, jj, jj, jj, jj, jj, jj, jj, jj, jj, jj, jj, jj, jj, jj, jj, jj, jj, jj, jj, jj, jj, jj, jj, jj, jj, jj, jj, jj, jj, jj, jj, jj, jj, jj, jj, jj, jj, jj, jj, jj, jj, jj, jj, jj, jj, jj, jj, jj, jj, jj, jj, jj] [AO.row Ty.str a_521] (0 : Nat)))) (fun t => (Sum.elim (fun t_525 => r = (Bool.false)) (fun t_526 => Walk Go.Proofs.Tryd.prog 8 (Cfg.mk Mode.run ((headTodo Go.Proofs.Tryd.prog 8 1).drop 3) (St.mk [AV.list Ty.str l_513 Bool.false, jj, jj, jj, AV.view (0 : Nat) (0 : Nat) Option.none, jj, jj, jj, jj, jj, jj, jj, jj, jj, jj, jj, jj, jj, jj, jj, jj, jj, jj, jj, jj, jj, jj, jj, jj, jj, jj, jj, jj, jj, jj, jj, jj, jj, jj, jj, jj, jj, jj, jj, jj, jj, jj, jj, jj, jj, jj, jj, jj, jj, jj, jj, jj, jj] [AO.row Ty.str a_521] (0 : Nat))) (cellarerlaw02_PathSorts_res r) (cellarerlaw02_PathSorts_out r))) t) h (fun t h => ?_) (fun s_539 x533 h533 K533 => ?_)
        ·
          rcases t with t_525 | t_526
          · replace h := W.inl (h)
            refine W.elimL (?_)
            exact (Option.some.inj h).symm
          · replace h := W.inr (h)
            refine W.elimR (?_)
            refine W.bind h fun a_527 ha_527 h => ?_
            refine W.call 0 100000 (by kernel_rfl) (cellarerref02_Sorted_con ha_527) (by kernel_rfl) ?_
            refine W.bind h fun a_528 ha_528 h => ?_
            refine W.call 0 100000 (by kernel_rfl) (cellarerref02_Same_con ha_528) (by kernel_rfl) ?_
            refine W.cond 0 100000 h (by kernel_rfl) (fun h => ?_) (fun h => ?_)
            ·
              refine W.yes 0 100000 (by kernel_rfl) ?_
              refine W.bind h fun a_529 ha_529 h => ?_
              refine W.call 0 100000 (by kernel_rfl) (path_Sorted_con ha_529) (by kernel_rfl) ?_
              refine W.yes 0 100000 (by kernel_rfl) ?_
              refine W.yes 0 100000 (by kernel_rfl) ?_
              refine W.bind h fun a_530 ha_530 h => ?_
              refine W.call 0 100000 (by kernel_rfl) (cellarerref02_Same_con ha_530) (by kernel_rfl) ?_
              refine W.yes 0 100000 (by kernel_rfl) ?_
              refine W.cond 0 100000 h (by kernel_rfl) (fun h => ?_) (fun h => ?_)
              ·
                refine W.bind h fun a_531 ha_531 h => ?_
                refine W.call 0 100000 (by kernel_rfl) (cellarerlaw02_awake_con ha_531) (by kernel_rfl) ?_
                refine W.yes 0 100000 (by kernel_rfl) ?_
                exact W.retT 0 100000 h (by kernel_rfl)
              ·
                refine W.no 0 100000 (by kernel_rfl) ?_
                exact W.retT 0 100000 h (by kernel_rfl)
            ·
              refine W.no 0 100000 (by kernel_rfl) ?_
              refine W.no 0 100000 (by kernel_rfl) ?_
              refine W.no 0 100000 (by kernel_rfl) ?_
              refine W.no 0 100000 (by kernel_rfl) ?_
              refine W.no 0 100000 (by kernel_rfl) ?_
              refine W.no 0 100000 (by kernel_rfl) ?_
              exact W.retT 0 100000 h (by kernel_rfl)
        · unfold cellarerlaw02_PathSorts_b1 at h533
          refine W.cond 2 100000 h533 (by kernel_rfl) (fun h533 => ?_) (fun h533 => ?_)
          ·
            refine W.cond 2 100000 h533 (by kernel_rfl) (fun h533 => ?_) (fun h533 => ?_)
            ·
              refine W.yes 2 100000 (by kernel_rfl) ?_
              refine W.yes 2 100000 (by kernel_rfl) ?_
              refine W.yes 2 100000 (by kernel_rfl) ?_
              refine W.needT 2 100000 h533 (by kernel_rfl) (fun h533 => ?_)
              refine W.yes 2 100000 (by kernel_rfl) ?_
              refine W.needT 2 100000 h533 (by kernel_rfl) (fun h533 => ?_)
              refine W.yes 2 100000 (by kernel_rfl) ?_
              refine W.yes 2 100000 (by kernel_rfl) ?_
              refine W.yes 2 100000 (by kernel_rfl) ?_
              refine W.needT 2 100000 h533 (by kernel_rfl) (fun h533 => ?_)
              refine W.yes 2 100000 (by kernel_rfl) ?_
              refine W.needT 2 100000 h533 (by kernel_rfl) (fun h533 => ?_)
              refine W.yes 2 100000 (by kernel_rfl) ?_
              refine W.yes 2 100000 (by kernel_rfl) ?_
              refine W.cond 2 100000 h533 (by kernel_rfl) (fun h533 => ?_) (fun h533 => ?_)
              ·
                cases h533; exact W.retK 2 100000 K533 (by kernel_rfl)
              ·
                cases h533; exact W.at 2 100000 [] [0, 4, 5] (by kernel_rfl) K533
            ·
              refine W.no 2 100000 (by kernel_rfl) ?_
              refine W.no 2 100000 (by kernel_rfl) ?_
              refine W.no 2 100000 (by kernel_rfl) ?_
              refine W.no 2 100000 (by kernel_rfl) ?_
              refine W.no 2 100000 (by kernel_rfl) ?_
              refine W.no 2 100000 (by kernel_rfl) ?_
              refine W.no 2 100000 (by kernel_rfl) ?_
              refine W.no 2 100000 (by kernel_rfl) ?_
              refine W.no 2 100000 (by kernel_rfl) ?_
              refine W.no 2 100000 (by kernel_rfl) ?_
              refine W.no 2 100000 (by kernel_rfl) ?_
              cases h533; exact W.at 2 100000 [] [0, 4, 5] (by kernel_rfl) K533
          ·
            cases h533; exact W.at 2 100000 [] [0, 4] (by kernel_rfl) K533
    · unfold cellarerlaw02_PathSorts_b0 at h534
      refine W.cond 2 100000 h534 (by kernel_rfl) (fun h534 => ?_) (fun h534 => ?_)
      ·
        refine W.needT 2 100000 h534 (by kernel_rfl) (fun h534 => ?_)
        refine W.cond 2 100000 h534 (by kernel_rfl) (fun h534 => ?_) (fun h534 => ?_)
        ·
          refine W.bind h534 fun a_517 ha_517 h534 => ?_
          refine W.call 2 100000 (by kernel_rfl) (cellarerlaw02_awake_con ha_517) (by kernel_rfl) ?_
          cases h534; exact W.retK 2 100000 K534 (by kernel_rfl)
        ·
          cases h534; exact W.at 2 100000 [] [0, 3] (by kernel_rfl) K534
      ·
        cases h534; exact W.at 2 100000 [] [0] (by kernel_rfl) K534

end Go.Cellar
