/- What the program's functions come to: printed by a program, checked by Lean. No condition. -/
import Derived.Test.YtlhpgbaclbkjiaaDoorFun9
import Derived.Test.YtlhpgbaclbkjiaaDoorIns9
set_option maxRecDepth 4000
set_option synthInstance.maxHeartbeats 2000000
set_option synthInstance.maxSize 100000
set_option linter.unusedVariables false
namespace Go.Cellar
open Go

theorem path_Name_con {s_1 : List UInt8} {r : Bool} (h : path_Name s_1 = some r) : Con Go.Proofs.Tryd.prog 41 [AV.str s_1] [] (path_Name_res r) (path_Name_out r) := by
  refine W.con (by kernel_rfl) ?_
  unfold path_Name at h
  refine W.join (fun t => (Sum.elim (fun t_2 => r = (Bool.false)) (fun t_3 => Walk Go.Proofs.Tryd.prog 41 (Cfg.mk Mode.run (seqTodo Go.Proofs.Tryd.prog 41 1) (St.mk [AV.str s_1, jj, jj, jj, jj, jj, jj, jj, jj, jj, jj, jj, jj, jj, jj, jj, jj, jj, jj, jj, jj, jj, jj, jj, jj, jj, jj, jj, jj, jj, jj, jj, jj, jj, jj, jj, jj, jj, jj, jj, jj, jj, jj, jj, jj, jj, jj, jj, jj, jj, jj, jj, jj, jj, jj] [] (0 : Nat))) (path_Name_res r) (path_Name_out r))) t) h (fun t h => ?_) (fun t14 h14 K14 => ?_)
  ·
    rcases t with t_2 | t_3
    · replace h := W.inl (h)
      refine W.elimL (?_)
      exact (Option.some.inj h).symm
    · replace h := W.inr (h)
      refine W.elimR (?_)
      refine W.at 0 100000 [] [0, 15, 16] (c' := (fun (s_17 : Int) => (Cfg.mk Mode.run (headTodo Go.Proofs.Tryd.prog 41 0) (St.mk [AV.str s_1, jj, jj, jj, jj, jj, jj, jj, jj, jj, jj, jj, jj, jj, jj, AV.int IntKind.i64 (↑(List.length s_1) : Int), AV.int IntKind.i64 s_17, jj, jj, jj, jj, jj, jj, jj, jj, jj, jj, jj, jj, jj, jj, jj, jj, jj, jj, jj, jj, jj, jj, jj, jj, jj, jj, jj, jj, jj, jj, jj, jj, jj, jj, jj, jj, jj, jj] [] (0 : Nat)))) ((0 : Int))) (by kernel_rfl) ?_
      refine W.loop (fun (s_17 : Int) => (Cfg.mk Mode.run (headTodo Go.Proofs.Tryd.prog 41 0) (St.mk [AV.str s_1, jj, jj, jj, jj, jj, jj, jj, jj, jj, jj, jj, jj, jj, jj, AV.int IntKind.i64 (↑(List.length s_1) : Int), AV.int IntKind.i64 s_17, jj, jj, jj, jj, jj, jj, jj, jj, jj, jj, jj, jj, jj, jj, jj, jj, jj, jj, jj, jj, jj, jj, jj, jj, jj, jj, jj, jj, jj, jj, jj, jj, jj, jj, jj, jj, jj, jj] [] (0 : Nat)))) (fun t => (Sum.elim (fun t_10 => r = (Bool.false)) (fun t_11 => Walk Go.Proofs.Tryd.prog 41 (Cfg.mk Mode.run ((headTodo Go.Proofs.Tryd.prog 41 0).drop 3) (St.mk [jj, jj, jj, jj, jj, jj, jj, jj, jj, jj, jj, jj, jj, jj, jj, jj, jj, jj, jj, jj, jj, jj, jj, jj, jj, jj, jj, jj, jj, jj, jj, jj, jj, jj, jj, jj, jj, jj, jj, jj, jj, jj, jj, jj, jj, jj, jj, jj, jj, jj, jj, jj, jj, jj, jj] [] (0 : Nat))) (path_Name_res r) (path_Name_out r))) t) h (fun t h => ?_) (fun s_17 x13 h13 K13 => ?_)
      ·
        rcases t with t_10 | t_11
        · replace h := W.inl (h)
          refine W.elimL (?_)
          exact (Option.some.inj h).symm
        · replace h := W.inr (h)
          refine W.elimR (?_)
          exact W.retT 0 100000 h (by kernel_rfl)
      · unfold path_Name_b0 at h13
        refine W.cond 2 100000 h13 (by kernel_rfl) (fun h13 => ?_) (fun h13 => ?_)
        ·
          refine W.needT 2 100000 h13 (by kernel_rfl) (fun h13 => ?_)
          refine W.join (fun t_8 => Walk Go.Proofs.Tryd.prog 41 (Cfg.mk Mode.run (seqTodo Go.Proofs.Tryd.prog 41 11) (St.mk [AV.str s_1, jj, jj, AV.int IntKind.i64 s_17, AV.int IntKind.u8 (↑(UInt8.toNat (List.getD s_1 (Int.toNat s_17) (0 : UInt8))) : Int), AV.bool t_8, jj, jj, jj, jj, jj, jj, jj, jj, jj, AV.int IntKind.i64 (↑(List.length s_1) : Int), AV.int IntKind.i64 s_17, jj, jj, jj, jj, jj, jj, jj, jj, jj, jj, jj, jj, jj, jj, jj, jj, jj, jj, jj, jj, jj, jj, jj, jj, jj, jj, jj, jj, jj, jj, jj, jj, jj, jj, jj, jj, jj, jj] [] (0 : Nat))) (path_Name_res r) (path_Name_out r)) h13 (fun t_8 h13 => ?_) (fun t10 h10 K10 => ?_)
          ·
            refine W.cond 2 100000 h13 (by kernel_rfl) (fun h13 => ?_) (fun h13 => ?_)
            ·
              refine W.yes 2 100000 (by kernel_rfl) ?_
              refine W.yes 2 100000 (by kernel_rfl) ?_
              refine W.cond 2 100000 h13 (by kernel_rfl) (fun h13 => ?_) (fun h13 => ?_)
              ·
                refine W.yes 2 100000 (by kernel_rfl) ?_
                refine W.yes 2 100000 (by kernel_rfl) ?_
                refine W.yes 2 100000 (by kernel_rfl) ?_
                refine W.yes 2 100000 (by kernel_rfl) ?_
                refine W.yes 2 100000 (by kernel_rfl) ?_
                refine W.yes 2 100000 (by kernel_rfl) ?_
                refine W.yes 2 100000 (by kernel_rfl) ?_
                refine W.yes 2 100000 (by kernel_rfl) ?_
                refine W.yes 2 100000 (by kernel_rfl) ?_
                cases h13; exact W.retK 2 100000 K13 (by kernel_rfl)
              ·
                refine W.no 2 100000 (by kernel_rfl) ?_
                refine W.no 2 100000 (by kernel_rfl) ?_
                refine W.cond 2 100000 h13 (by kernel_rfl) (fun h13 => ?_) (fun h13 => ?_)
                ·
                  refine W.yes 2 100000 (by kernel_rfl) ?_
                  refine W.no 2 100000 (by kernel_rfl) ?_
                  refine W.yes 2 100000 (by kernel_rfl) ?_
                  refine W.no 2 100000 (by kernel_rfl) ?_
                  refine W.cond 2 100000 h13 (by kernel_rfl) (fun h13 => ?_) (fun h13 => ?_)
                  ·
                    refine W.yes 2 100000 (by kernel_rfl) ?_
                    refine W.no 2 100000 (by kernel_rfl) ?_
                    refine W.yes 2 100000 (by kernel_rfl) ?_
                    refine W.yes 2 100000 (by kernel_rfl) ?_
                    refine W.no 2 100000 (by kernel_rfl) ?_
                    refine W.yes 2 100000 (by kernel_rfl) ?_
                    refine W.cond 2 100000 h13 (by kernel_rfl) (fun h13 => ?_) (fun h13 => ?_)
                    ·
                      cases h13; exact W.retK 2 100000 K13 (by kernel_rfl)
                    ·
                      cases h13; exact W.at 2 100000 [] [0, 15, 16] (by kernel_rfl) K13
                  ·
                    refine W.no 2 100000 (by kernel_rfl) ?_
                    refine W.no 2 100000 (by kernel_rfl) ?_
                    refine W.no 2 100000 (by kernel_rfl) ?_
                    refine W.yes 2 100000 (by kernel_rfl) ?_
                    refine W.no 2 100000 (by kernel_rfl) ?_
                    refine W.yes 2 100000 (by kernel_rfl) ?_
                    refine W.no 2 100000 (by kernel_rfl) ?_
                    cases h13; exact W.at 2 100000 [] [0, 15, 16] (by kernel_rfl) K13
                ·
                  refine W.no 2 100000 (by kernel_rfl) ?_
                  refine W.no 2 100000 (by kernel_rfl) ?_
                  refine W.no 2 100000 (by kernel_rfl) ?_
                  refine W.no 2 100000 (by kernel_rfl) ?_
                  refine W.no 2 100000 (by kernel_rfl) ?_
                  refine W.no 2 100000 (by kernel_rfl) ?_
                  refine W.no 2 100000 (by kernel_rfl) ?_
                  refine W.no 2 100000 (by kernel_rfl) ?_
                  refine W.yes 2 100000 (by kernel_rfl) ?_
                  refine W.no 2 100000 (by kernel_rfl) ?_
                  refine W.yes 2 100000 (by kernel_rfl) ?_
                  refine W.no 2 100000 (by kernel_rfl) ?_
                  cases h13; exact W.at 2 100000 [] [0, 15, 16] (by kernel_rfl) K13
            ·
              refine W.no 2 100000 (by kernel_rfl) ?_
              refine W.no 2 100000 (by kernel_rfl) ?_
              refine W.no 2 100000 (by kernel_rfl) ?_
              refine W.no 2 100000 (by kernel_rfl) ?_
              refine W.no 2 100000 (by kernel_rfl) ?_
              cases h13; exact W.at 2 100000 [] [0, 15, 16] (by kernel_rfl) K13
          · refine W.next 2 3 (by kernel_rfl) ?_
            refine W.cond 6 100000 h10 (by kernel_rfl) (fun h10 => ?_) (fun h10 => ?_)
            ·
              refine W.yes 6 100000 (by kernel_rfl) ?_
              refine W.yes 6 100000 (by kernel_rfl) ?_
              refine W.cond 6 100000 h10 (by kernel_rfl) (fun h10 => ?_) (fun h10 => ?_)
              ·
                refine W.yes 6 100000 (by kernel_rfl) ?_
                refine W.yes 6 100000 (by kernel_rfl) ?_
                refine W.yes 6 100000 (by kernel_rfl) ?_
                refine W.yes 6 100000 (by kernel_rfl) ?_
                cases h10; exact W.at 6 100000 [] [0, 3, 4, 5, 15, 16] (by kernel_rfl) K10
              ·
                refine W.no 6 100000 (by kernel_rfl) ?_
                refine W.no 6 100000 (by kernel_rfl) ?_
                refine W.cond 6 100000 h10 (by kernel_rfl) (fun h10 => ?_) (fun h10 => ?_)
                ·
                  refine W.yes 6 100000 (by kernel_rfl) ?_
                  refine W.no 6 100000 (by kernel_rfl) ?_
                  refine W.yes 6 100000 (by kernel_rfl) ?_
                  refine W.no 6 100000 (by kernel_rfl) ?_
                  cases h10; exact W.at 6 100000 [] [0, 3, 4, 5, 15, 16] (by kernel_rfl) K10
                ·
                  refine W.no 6 100000 (by kernel_rfl) ?_
                  refine W.no 6 100000 (by kernel_rfl) ?_
                  refine W.no 6 100000 (by kernel_rfl) ?_
                  refine W.no 6 100000 (by kernel_rfl) ?_
                  cases h10; exact W.at 6 100000 [] [0, 3, 4, 5, 15, 16] (by kernel_rfl) K10
            ·
              refine W.no 6 100000 (by kernel_rfl) ?_
              refine W.no 6 100000 (by kernel_rfl) ?_
              refine W.no 6 100000 (by kernel_rfl) ?_
              refine W.no 6 100000 (by kernel_rfl) ?_
              refine W.no 6 100000 (by kernel_rfl) ?_
              refine W.cond 6 100000 h10 (by kernel_rfl) (fun h10 => ?_) (fun h10 => ?_)
              ·
                refine W.yes 6 100000 (by kernel_rfl) ?_
                refine W.no 6 100000 (by kernel_rfl) ?_
                refine W.yes 6 100000 (by kernel_rfl) ?_
                refine W.no 6 100000 (by kernel_rfl) ?_
                cases h10; exact W.at 6 100000 [] [0, 3, 4, 5, 15, 16] (by kernel_rfl) K10
              ·
                refine W.no 6 100000 (by kernel_rfl) ?_
                refine W.no 6 100000 (by kernel_rfl) ?_
                refine W.no 6 100000 (by kernel_rfl) ?_
                refine W.no 6 100000 (by kernel_rfl) ?_
                cases h10; exact W.at 6 100000 [] [0, 3, 4, 5, 15, 16] (by kernel_rfl) K10
        ·
          cases h13; exact W.at 2 100000 [] [] (by kernel_rfl) K13
  · refine W.next 0 5 (by kernel_rfl) ?_
    refine W.cond 1 100000 h14 (by kernel_rfl) (fun h14 => ?_) (fun h14 => ?_)
    ·
      refine W.yes 1 100000 (by kernel_rfl) ?_
      refine W.yes 1 100000 (by kernel_rfl) ?_
      refine W.yes 1 100000 (by kernel_rfl) ?_
      refine W.yes 1 100000 (by kernel_rfl) ?_
      cases h14; exact W.retK 1 100000 K14 (by kernel_rfl)
    ·
      refine W.no 1 100000 (by kernel_rfl) ?_
      refine W.no 1 100000 (by kernel_rfl) ?_
      refine W.no 1 100000 (by kernel_rfl) ?_
      refine W.cond 1 100000 h14 (by kernel_rfl) (fun h14 => ?_) (fun h14 => ?_)
      ·
        cases h14; exact W.retK 1 100000 K14 (by kernel_rfl)
      ·
        cases h14; exact W.at 1 100000 [] [0] (by kernel_rfl) K14

theorem cellarerref02_Name_con {s_19 : List UInt8} {r : Bool} (h : cellarerref02_Name s_19 = some r) : Con Go.Proofs.Tryd.prog 43 [AV.str s_19] [] (cellarerref02_Name_res r) (cellarerref02_Name_out r) := by
  refine W.con (by kernel_rfl) ?_
  unfold cellarerref02_Name at h
  refine W.at 0 100000 [] [0, 3] (c' := (fun (s_37 : Int) => (Cfg.mk Mode.run (headTodo Go.Proofs.Tryd.prog 43 0) (St.mk [AV.str s_19, jj, jj, AV.int IntKind.i64 s_37, jj, jj, jj, jj, jj, jj, jj, jj, jj, jj, jj, jj, jj, jj, jj, jj, jj, jj, jj, jj, jj, jj, jj, jj, jj, jj, jj, jj, jj, jj, jj, jj, jj, jj, jj, jj, jj, jj, jj, jj, jj, jj, jj, jj, jj, jj, jj, jj, jj, jj, jj, jj, jj, jj, jj, jj, jj, jj, jj, jj] [] (0 : Nat)))) ((0 : Int))) (by kernel_rfl) ?_
  refine W.loop (fun (s_37 : Int) => (Cfg.mk Mode.run (headTodo Go.Proofs.Tryd.prog 43 0) (St.mk [AV.str s_19, jj, jj, AV.int IntKind.i64 s_37, jj, jj, jj, jj, jj, jj, jj, jj, jj, jj, jj, jj, jj, jj, jj, jj, jj, jj, jj, jj, jj, jj, jj, jj, jj, jj, jj, jj, jj, jj, jj, jj, jj, jj, jj, jj, jj, jj, jj, jj, jj, jj, jj, jj, jj, jj, jj, jj, jj, jj, jj, jj, jj, jj, jj, jj, jj, jj, jj, jj] [] (0 : Nat)))) (fun t => (Sum.elim (fun t_31 => r = (Bool.false)) (fun t_32 => Walk Go.Proofs.Tryd.prog 43 (Cfg.mk Mode.run ((headTodo Go.Proofs.Tryd.prog 43 0).drop 3) (St.mk [AV.str s_19, jj, jj, jj, jj, jj, jj, jj, jj, jj, jj, jj, jj, jj, jj, jj, jj, jj, jj, jj, jj, jj, jj, jj, jj, jj, jj, jj, jj, jj, jj, jj, jj, jj, jj, jj, jj, jj, jj, jj, jj, jj, jj, jj, jj, jj, jj, jj, jj, jj, jj, jj, jj, jj, jj, jj, jj, jj, jj, jj, jj, jj, jj, jj] [] (0 : Nat))) (cellarerref02_Name_res r) (cellarerref02_Name_out r))) t) h (fun t h => ?_) (fun s_37 x34 h34 K34 => ?_)
  ·
    rcases t with t_31 | t_32
    · replace h := W.inl (h)
      refine W.elimL (?_)
      exact (Option.some.inj h).symm
    · replace h := W.inr (h)
      refine W.elimR (?_)
      refine W.cond 0 100000 h (by kernel_rfl) (fun h => ?_) (fun h => ?_)
      ·
        refine W.yes 0 100000 (by kernel_rfl) ?_
        refine W.yes 0 100000 (by kernel_rfl) ?_
        refine W.yes 0 100000 (by kernel_rfl) ?_
        exact W.retT 0 100000 h (by kernel_rfl)
      ·
        refine W.no 0 100000 (by kernel_rfl) ?_
        refine W.no 0 100000 (by kernel_rfl) ?_
        refine W.no 0 100000 (by kernel_rfl) ?_
        exact W.retT 0 100000 h (by kernel_rfl)
  · unfold cellarerref02_Name_b0 at h34
    refine W.cond 2 100000 h34 (by kernel_rfl) (fun h34 => ?_) (fun h34 => ?_)
    ·
      refine W.needT 2 100000 h34 (by kernel_rfl) (fun h34 => ?_)
      refine W.join (fun t_23 => Walk Go.Proofs.Tryd.prog 43 (Cfg.mk Mode.run (seqTodo Go.Proofs.Tryd.prog 43 7) (St.mk [AV.str s_19, jj, jj, AV.int IntKind.i64 s_37, AV.int IntKind.u8 (↑(UInt8.toNat (List.getD s_19 (Int.toNat s_37) (0 : UInt8))) : Int), AV.bool t_23, jj, jj, jj, jj, jj, jj, jj, jj, jj, jj, jj, jj, jj, jj, jj, jj, jj, jj, jj, jj, jj, jj, jj, jj, jj, jj, jj, jj, jj, jj, jj, jj, jj, jj, jj, jj, jj, jj, jj, jj, jj, jj, jj, jj, jj, jj, jj, jj, jj, jj, jj, jj, jj, jj, jj, jj, jj, jj] [] (0 : Nat))) (cellarerref02_Name_res r) (cellarerref02_Name_out r)) h34 (fun t_23 h34 => ?_) (fun t31 h31 K31 => ?_)
      ·
        refine W.join (fun t_25 => Walk Go.Proofs.Tryd.prog 43 (Cfg.mk Mode.run (seqTodo Go.Proofs.Tryd.prog 43 8) (St.mk [AV.str s_19, jj, jj, AV.int IntKind.i64 s_37, AV.int IntKind.u8 (↑(UInt8.toNat (List.getD s_19 (Int.toNat s_37) (0 : UInt8))) : Int), AV.bool t_23, AV.bool t_25, jj, jj, jj, jj, jj, jj, jj, jj, jj, jj, jj, jj, jj, jj, jj, jj, jj, jj, jj, jj, jj, jj, jj, jj, jj, jj, jj, jj, jj, jj, jj, jj, jj, jj, jj, jj, jj, jj, jj, jj, jj, jj, jj, jj, jj, jj, jj, jj, jj, jj, jj, jj, jj, jj, jj, jj, jj] [] (0 : Nat))) (cellarerref02_Name_res r) (cellarerref02_Name_out r)) h34 (fun t_25 h34 => ?_) (fun t30 h30 K30 => ?_)
        ·
          refine W.join (fun t_27 => Walk Go.Proofs.Tryd.prog 43 (Cfg.mk Mode.run (seqTodo Go.Proofs.Tryd.prog 43 9) (St.mk [AV.str s_19, jj, jj, AV.int IntKind.i64 s_37, jj, AV.bool t_23, AV.bool t_25, AV.bool t_27, jj, jj, jj, jj, jj, jj, jj, jj, jj, jj, jj, jj, jj, jj, jj, jj, jj, jj, jj, jj, jj, jj, jj, jj, jj, jj, jj, jj, jj, jj, jj, jj, jj, jj, jj, jj, jj, jj, jj, jj, jj, jj, jj, jj, jj, jj, jj, jj, jj, jj, jj, jj, jj, jj, jj, jj] [] (0 : Nat))) (cellarerref02_Name_res r) (cellarerref02_Name_out r)) h34 (fun t_27 h34 => ?_) (fun t29 h29 K29 => ?_)
          ·
            refine W.cond 2 100000 h34 (by kernel_rfl) (fun h34 => ?_) (fun h34 => ?_)
            ·
              refine W.yes 2 100000 (by kernel_rfl) ?_
              refine W.yes 2 100000 (by kernel_rfl) ?_
              refine W.cond 2 100000 h34 (by kernel_rfl) (fun h34 => ?_) (fun h34 => ?_)
              ·
                refine W.yes 2 100000 (by kernel_rfl) ?_
                refine W.yes 2 100000 (by kernel_rfl) ?_
                refine W.cond 2 100000 h34 (by kernel_rfl) (fun h34 => ?_) (fun h34 => ?_)
                ·
                  refine W.yes 2 100000 (by kernel_rfl) ?_
                  refine W.yes 2 100000 (by kernel_rfl) ?_
                  refine W.yes 2 100000 (by kernel_rfl) ?_
                  refine W.yes 2 100000 (by kernel_rfl) ?_
                  cases h34; exact W.retK 2 100000 K34 (by kernel_rfl)
                ·
                  refine W.no 2 100000 (by kernel_rfl) ?_
                  refine W.cond 2 100000 h34 (by kernel_rfl) (fun h34 => ?_) (fun h34 => ?_)
                  ·
                    refine W.yes 2 100000 (by kernel_rfl) ?_
                    refine W.no 2 100000 (by kernel_rfl) ?_
                    refine W.yes 2 100000 (by kernel_rfl) ?_
                    refine W.no 2 100000 (by kernel_rfl) ?_
                    refine W.cond 2 100000 h34 (by kernel_rfl) (fun h34 => ?_) (fun h34 => ?_)
                    ·
                      cases h34; exact W.retK 2 100000 K34 (by kernel_rfl)
                    ·
                      cases h34; exact W.at 2 100000 [] [0, 3] (by kernel_rfl) K34
                  ·
                    refine W.no 2 100000 (by kernel_rfl) ?_
                    refine W.no 2 100000 (by kernel_rfl) ?_
                    refine W.no 2 100000 (by kernel_rfl) ?_
                    refine W.no 2 100000 (by kernel_rfl) ?_
                    refine W.no 2 100000 (by kernel_rfl) ?_
                    cases h34; exact W.at 2 100000 [] [0, 3] (by kernel_rfl) K34
              ·
                refine W.no 2 100000 (by kernel_rfl) ?_
                refine W.no 2 100000 (by kernel_rfl) ?_
                refine W.no 2 100000 (by kernel_rfl) ?_
                refine W.no 2 100000 (by kernel_rfl) ?_
                refine W.cond 2 100000 h34 (by kernel_rfl) (fun h34 => ?_) (fun h34 => ?_)
                ·
                  refine W.yes 2 100000 (by kernel_rfl) ?_
                  refine W.no 2 100000 (by kernel_rfl) ?_
                  refine W.yes 2 100000 (by kernel_rfl) ?_
                  refine W.no 2 100000 (by kernel_rfl) ?_
                  refine W.cond 2 100000 h34 (by kernel_rfl) (fun h34 => ?_) (fun h34 => ?_)
                  ·
                    cases h34; exact W.retK 2 100000 K34 (by kernel_rfl)
                  ·
                    cases h34; exact W.at 2 100000 [] [0, 3] (by kernel_rfl) K34
                ·
                  refine W.no 2 100000 (by kernel_rfl) ?_
                  refine W.no 2 100000 (by kernel_rfl) ?_
                  refine W.no 2 100000 (by kernel_rfl) ?_
                  refine W.no 2 100000 (by kernel_rfl) ?_
                  refine W.no 2 100000 (by kernel_rfl) ?_
                  cases h34; exact W.at 2 100000 [] [0, 3] (by kernel_rfl) K34
            ·
              refine W.no 2 100000 (by kernel_rfl) ?_
              refine W.no 2 100000 (by kernel_rfl) ?_
              refine W.no 2 100000 (by kernel_rfl) ?_
              refine W.no 2 100000 (by kernel_rfl) ?_
              refine W.no 2 100000 (by kernel_rfl) ?_
              refine W.no 2 100000 (by kernel_rfl) ?_
              refine W.no 2 100000 (by kernel_rfl) ?_
              refine W.cond 2 100000 h34 (by kernel_rfl) (fun h34 => ?_) (fun h34 => ?_)
              ·
                refine W.yes 2 100000 (by kernel_rfl) ?_
                refine W.no 2 100000 (by kernel_rfl) ?_
                refine W.yes 2 100000 (by kernel_rfl) ?_
                refine W.no 2 100000 (by kernel_rfl) ?_
                refine W.cond 2 100000 h34 (by kernel_rfl) (fun h34 => ?_) (fun h34 => ?_)
                ·
                  cases h34; exact W.retK 2 100000 K34 (by kernel_rfl)
                ·
                  cases h34; exact W.at 2 100000 [] [0, 3] (by kernel_rfl) K34
              ·
                refine W.no 2 100000 (by kernel_rfl) ?_
                refine W.no 2 100000 (by kernel_rfl) ?_
                refine W.no 2 100000 (by kernel_rfl) ?_
                refine W.no 2 100000 (by kernel_rfl) ?_
                refine W.no 2 100000 (by kernel_rfl) ?_
                cases h34; exact W.at 2 100000 [] [0, 3] (by kernel_rfl) K34
          · refine W.next 2 1 (by kernel_rfl) ?_
            refine W.cond 6 100000 h29 (by kernel_rfl) (fun h29 => ?_) (fun h29 => ?_)
            ·
              refine W.yes 6 100000 (by kernel_rfl) ?_
              refine W.yes 6 100000 (by kernel_rfl) ?_
              refine W.yes 6 100000 (by kernel_rfl) ?_
              refine W.yes 6 100000 (by kernel_rfl) ?_
              refine W.yes 6 100000 (by kernel_rfl) ?_
              cases h29; exact W.at 6 100000 [] [0, 3, 5, 6, 7] (by kernel_rfl) K29
            ·
              refine W.no 6 100000 (by kernel_rfl) ?_
              refine W.no 6 100000 (by kernel_rfl) ?_
              refine W.cond 6 100000 h29 (by kernel_rfl) (fun h29 => ?_) (fun h29 => ?_)
              ·
                refine W.yes 6 100000 (by kernel_rfl) ?_
                refine W.yes 6 100000 (by kernel_rfl) ?_
                cases h29; exact W.at 6 100000 [] [0, 3, 5, 6, 7] (by kernel_rfl) K29
              ·
                refine W.no 6 100000 (by kernel_rfl) ?_
                refine W.no 6 100000 (by kernel_rfl) ?_
                cases h29; exact W.at 6 100000 [] [0, 3, 5, 6, 7] (by kernel_rfl) K29
        · refine W.next 2 1 (by kernel_rfl) ?_
          refine W.cond 6 100000 h30 (by kernel_rfl) (fun h30 => ?_) (fun h30 => ?_)
          ·
            refine W.yes 6 100000 (by kernel_rfl) ?_
            refine W.yes 6 100000 (by kernel_rfl) ?_
            cases h30; exact W.at 6 100000 [] [0, 3, 4, 5, 6] (by kernel_rfl) K30
          ·
            refine W.no 6 100000 (by kernel_rfl) ?_
            refine W.no 6 100000 (by kernel_rfl) ?_
            cases h30; exact W.at 6 100000 [] [0, 3, 4, 5, 6] (by kernel_rfl) K30
      · refine W.next 2 3 (by kernel_rfl) ?_
        refine W.cond 6 100000 h31 (by kernel_rfl) (fun h31 => ?_) (fun h31 => ?_)
        ·
          refine W.yes 6 100000 (by kernel_rfl) ?_
          refine W.yes 6 100000 (by kernel_rfl) ?_
          cases h31; exact W.at 6 100000 [] [0, 3, 4, 5] (by kernel_rfl) K31
        ·
          refine W.no 6 100000 (by kernel_rfl) ?_
          refine W.no 6 100000 (by kernel_rfl) ?_
          cases h31; exact W.at 6 100000 [] [0, 3, 4, 5] (by kernel_rfl) K31
    ·
      cases h34; exact W.at 2 100000 [] [0] (by kernel_rfl) K34

theorem stringslite_HasSuffix_con {s_42 : List UInt8} {suffix_43 : List UInt8} {r : Bool} (h : stringslite_HasSuffix s_42 suffix_43 = some r) : Con Go.Proofs.Tryd.prog 51 [AV.str s_42, AV.str suffix_43] [] (stringslite_HasSuffix_res r) (stringslite_HasSuffix_out r) := by
  refine W.con (by kernel_rfl) ?_
  unfold stringslite_HasSuffix at h
  refine W.cond 0 100000 h (by kernel_rfl) (fun h => ?_) (fun h => ?_)
  ·
    refine W.yes 0 100000 (by kernel_rfl) ?_
    refine W.yes 0 100000 (by kernel_rfl) ?_
    refine W.yes 0 100000 (by kernel_rfl) ?_
    refine W.yes 0 100000 (by kernel_rfl) ?_
    refine W.yes 0 100000 (by kernel_rfl) ?_
    refine W.yes 0 100000 (by kernel_rfl) ?_
    refine W.needT 0 100000 h (by kernel_rfl) (fun h => ?_)
    refine W.yes 0 100000 (by kernel_rfl) ?_
    refine W.yes 0 100000 (by kernel_rfl) ?_
    refine W.yes 0 100000 (by kernel_rfl) ?_
    exact W.retT 0 100000 h (by kernel_rfl)
  ·
    refine W.no 0 100000 (by kernel_rfl) ?_
    refine W.no 0 100000 (by kernel_rfl) ?_
    refine W.no 0 100000 (by kernel_rfl) ?_
    refine W.no 0 100000 (by kernel_rfl) ?_
    refine W.no 0 100000 (by kernel_rfl) ?_
    refine W.no 0 100000 (by kernel_rfl) ?_
    refine W.no 0 100000 (by kernel_rfl) ?_
    refine W.no 0 100000 (by kernel_rfl) ?_
    refine W.no 0 100000 (by kernel_rfl) ?_
    exact W.retT 0 100000 h (by kernel_rfl)

theorem strings_HasSuffix_con {s_40 : List UInt8} {suffix_41 : List UInt8} {r : Bool} (h : strings_HasSuffix s_40 suffix_41 = some r) : Con Go.Proofs.Tryd.prog 44 [AV.str s_40, AV.str suffix_41] [] (strings_HasSuffix_res r) (strings_HasSuffix_out r) := by
  refine W.con (by kernel_rfl) ?_
  unfold strings_HasSuffix at h
  refine W.bind h fun a_46 ha_46 h => ?_
  refine W.call 0 100000 (by kernel_rfl) (stringslite_HasSuffix_con ha_46) (by kernel_rfl) ?_
  exact W.retT 0 100000 h (by kernel_rfl)

theorem stringslite_IndexByte_con {s_78 : List UInt8} {c_79 : Int} {r : Int} (h : stringslite_IndexByte s_78 c_79 = some r) : Con Go.Proofs.Tryd.prog 77 [AV.str s_78, AV.int IntKind.u8 c_79] [] (stringslite_IndexByte_res r) (stringslite_IndexByte_out r) := by
  refine W.con (by kernel_rfl) ?_
  unfold stringslite_IndexByte at h
  refine W.needT 0 100000 h (by kernel_rfl) (fun h => ?_)
  exact W.retT 0 100000 h (by kernel_rfl)

theorem stringslite_Index_con {s_83 : List UInt8} {substr_84 : List UInt8} {r : Int} (h : stringslite_Index s_83 substr_84 = some r) : Con Go.Proofs.Tryd.prog 72 [AV.str s_83, AV.str substr_84] [] (stringslite_Index_res r) (stringslite_Index_out r) := by
  refine W.con (by kernel_rfl) ?_
  unfold stringslite_Index at h
  refine W.join (fun t_87 => r = (t_87)) h (fun t_87 h => ?_) (fun t89 h89 K89 => ?_)
  ·
    exact (Option.some.inj h).symm
  · refine W.next 0 11 (by kernel_rfl) ?_
    refine W.cond 1 100000 h89 (by kernel_rfl) (fun h89 => ?_) (fun h89 => ?_)
    ·
      refine W.yes 1 100000 (by kernel_rfl) ?_
      refine W.yes 1 100000 (by kernel_rfl) ?_
      refine W.yes 1 100000 (by kernel_rfl) ?_
      refine W.yes 1 100000 (by kernel_rfl) ?_
      cases h89; exact W.retK 1 100000 K89 (by kernel_rfl)
    ·
      refine W.no 1 100000 (by kernel_rfl) ?_
      refine W.no 1 100000 (by kernel_rfl) ?_
      refine W.no 1 100000 (by kernel_rfl) ?_
      refine W.cond 1 100000 h89 (by kernel_rfl) (fun h89 => ?_) (fun h89 => ?_)
      ·
        cases h89; exact W.retK 1 100000 K89 (by kernel_rfl)
      ·
        refine W.cond 1 100000 h89 (by kernel_rfl) (fun h89 => ?_) (fun h89 => ?_)
        ·
          refine W.needT 1 100000 h89 (by kernel_rfl) (fun h89 => ?_)
          refine W.bind h89 fun a_85 ha_85 h89 => ?_
          refine W.call 1 100000 (by kernel_rfl) (stringslite_IndexByte_con ha_85) (by kernel_rfl) ?_
          cases h89; exact W.retK 1 100000 K89 (by kernel_rfl)
        ·
          refine W.cond 1 100000 h89 (by kernel_rfl) (fun h89 => ?_) (fun h89 => ?_)
          ·
            cases h89; exact W.retK 1 100000 K89 (by kernel_rfl)
          ·
            exact nomatch h89

theorem strings_Index_con {s_74 : List UInt8} {substr_75 : List UInt8} {r : Int} (h : strings_Index s_74 substr_75 = some r) : Con Go.Proofs.Tryd.prog 61 [AV.str s_74, AV.str substr_75] [] (strings_Index_res r) (strings_Index_out r) := by
  refine W.con (by kernel_rfl) ?_
  unfold strings_Index at h
  refine W.bind h fun a_91 ha_91 h => ?_
  refine W.call 0 100000 (by kernel_rfl) (stringslite_Index_con ha_91) (by kernel_rfl) ?_
  exact W.retT 0 100000 h (by kernel_rfl)

theorem strings_Count_con {s_69 : List UInt8} {substr_70 : List UInt8} {r : Int} (h : strings_Count s_69 substr_70 = some r) : Con Go.Proofs.Tryd.prog 60 [AV.str s_69, AV.str substr_70] [] (strings_Count_res r) (strings_Count_out r) := by
  refine W.con (by kernel_rfl) ?_
  unfold strings_Count at h
  refine W.cond 0 100000 h (by kernel_rfl) (fun h => ?_) (fun h => ?_)
  ·
    exact nomatch h
  ·
    refine W.cond 0 100000 h (by kernel_rfl) (fun h => ?_) (fun h => ?_)
    ·
      refine W.needT 0 100000 h (by kernel_rfl) (fun h => ?_)
      exact W.retT 0 100000 h (by kernel_rfl)
    ·
      refine W.at 0 100000 [] [0, 1, 5] (c' := (fun (s_101 : List UInt8 × Int) => (Cfg.mk Mode.run (headTodo Go.Proofs.Tryd.prog 60 0) (St.mk [AV.str (Prod.fst s_101), AV.str substr_70, jj, jj, jj, AV.int IntKind.i64 (Prod.snd s_101), jj, jj, jj, jj, jj, jj, jj, jj, jj, jj, jj, jj, jj, jj, jj, jj, jj, jj, jj, jj, jj, jj, jj, jj, jj, jj, jj, jj] [] (0 : Nat)))) (s_69, (0 : Int))) (by kernel_rfl) ?_
      refine W.loop (fun (s_101 : List UInt8 × Int) => (Cfg.mk Mode.run (headTodo Go.Proofs.Tryd.prog 60 0) (St.mk [AV.str (Prod.fst s_101), AV.str substr_70, jj, jj, jj, AV.int IntKind.i64 (Prod.snd s_101), jj, jj, jj, jj, jj, jj, jj, jj, jj, jj, jj, jj, jj, jj, jj, jj, jj, jj, jj, jj, jj, jj, jj, jj, jj, jj, jj, jj] [] (0 : Nat)))) (fun t_96 => r = (t_96)) h (fun t_96 h => ?_) (fun s_101 x98 h98 K98 => ?_)
      ·
        exact (Option.some.inj h).symm
      · unfold strings_Count_b0 at h98
        refine W.bind h98 fun a_94 ha_94 h98 => ?_
        refine W.call 1 100000 (by kernel_rfl) (strings_Index_con ha_94) (by kernel_rfl) ?_
        refine W.cond 1 100000 h98 (by kernel_rfl) (fun h98 => ?_) (fun h98 => ?_)
        ·
          cases h98; exact W.retK 1 100000 K98 (by kernel_rfl)
        ·
          refine W.needT 1 100000 h98 (by kernel_rfl) (fun h98 => ?_)
          cases h98; exact W.at 1 100000 [] [0, 1, 5] (by kernel_rfl) K98

theorem strings_genSplit_con {s_63 : List UInt8} {sep_64 : List UInt8} {sepSave_65 : Int} {n_66 : Int} {r : List (List UInt8)} (h : strings_genSplit s_63 sep_64 sepSave_65 n_66 = some r) : Con Go.Proofs.Tryd.prog 52 [AV.str s_63, AV.str sep_64, AV.int IntKind.i64 sepSave_65, AV.int IntKind.i64 n_66] [] (strings_genSplit_res r) (strings_genSplit_out r) := by
  refine W.con (by kernel_rfl) ?_
  unfold strings_genSplit at h
  refine W.cond 0 100000 h (by kernel_rfl) (fun h => ?_) (fun h => ?_)
  ·
    exact W.retT 0 100000 h (by kernel_rfl)
  ·
    refine W.cond 0 100000 h (by kernel_rfl) (fun h => ?_) (fun h => ?_)
    ·
      exact nomatch h
    ·
      refine W.join (fun t_104 => Walk Go.Proofs.Tryd.prog 52 (Cfg.mk Mode.run (seqTodo Go.Proofs.Tryd.prog 52 7) (St.mk [AV.str s_63, AV.str sep_64, AV.int IntKind.i64 sepSave_65, AV.int IntKind.i64 t_104, jj, jj, jj, jj, jj, jj, jj, jj, jj, jj, jj, jj, jj, jj, jj, jj, jj, jj, jj, jj, jj, jj, jj, jj, jj, jj, jj, jj, jj, jj, jj, jj, jj, jj, jj, jj, jj, jj, jj, jj, jj, jj, jj, jj, jj, jj, jj, jj, jj, jj, jj, jj, jj, jj, jj, jj, jj, jj, jj, jj, jj, jj] [] (0 : Nat))) (strings_genSplit_res r) (strings_genSplit_out r)) h (fun t_104 h => ?_) (fun t118 h118 K118 => ?_)
      ·
        refine W.needT 0 100000 h (by kernel_rfl) (fun h => ?_)
        refine W.at 0 100000 [] [0, 1, 2, 3, 9, 10] (c' := (fun (s_121 : List UInt8 × Int × List (List UInt8)) => (Cfg.mk Mode.run (headTodo Go.Proofs.Tryd.prog 52 0) (St.mk [AV.str (Prod.fst s_121), AV.str sep_64, AV.int IntKind.i64 sepSave_65, AV.int IntKind.i64 (IntKind.wrap IntKind.i64 ((if IntKind.wrap IntKind.i64 ((↑(List.length s_63) : Int) + (1 : Int)) < t_104 then IntKind.wrap IntKind.i64 ((↑(List.length s_63) : Int) + (1 : Int)) else t_104) - (1 : Int))), jj, jj, jj, jj, jj, AV.view (0 : Nat) (0 : Nat) Option.none, AV.int IntKind.i64 (Prod.fst (Prod.snd s_121)), jj, jj, jj, jj, jj, jj, jj, jj, jj, jj, jj, jj, jj, jj, jj, jj, jj, jj, jj, jj, jj, jj, jj, jj, jj, jj, jj, jj, jj, jj, jj, jj, jj, jj, jj, jj, jj, jj, jj, jj, jj, jj, jj, jj, jj, jj, jj, jj, jj, jj, jj, jj, jj, jj, jj] [AO.row Ty.str (Prod.snd (Prod.snd s_121))] (0 : Nat)))) (s_63, (0 : Int), List.replicate (Int.toNat (if IntKind.wrap IntKind.i64 ((↑(List.length s_63) : Int) + (1 : Int)) < t_104 then IntKind.wrap IntKind.i64 ((↑(List.length s_63) : Int) + (1 : Int)) else t_104)) [])) (by kernel_rfl) ?_
        refine W.loop (fun (s_121 : List UInt8 × Int × List (List UInt8)) => (Cfg.mk Mode.run (headTodo Go.Proofs.Tryd.prog 52 0) (St.mk [AV.str (Prod.fst s_121), AV.str sep_64, AV.int IntKind.i64 sepSave_65, AV.int IntKind.i64 (IntKind.wrap IntKind.i64 ((if IntKind.wrap IntKind.i64 ((↑(List.length s_63) : Int) + (1 : Int)) < t_104 then IntKind.wrap IntKind.i64 ((↑(List.length s_63) : Int) + (1 : Int)) else t_104) - (1 : Int))), jj, jj, jj, jj, jj, AV.view (0 : Nat) (0 : Nat) Option.none, AV.int IntKind.i64 (Prod.fst (Prod.snd s_121)), jj, jj, jj, jj, jj, jj, jj, jj, jj, jj, jj, jj, jj, jj, jj, jj, jj, jj, jj, jj, jj, jj, jj, jj, jj, jj, jj, jj, jj, jj, jj, jj, jj, jj, jj, jj, jj, jj, jj, jj, jj, jj, jj, jj, jj, jj, jj, jj, jj, jj, jj, jj, jj, jj, jj] [AO.row Ty.str (Prod.snd (Prod.snd s_121))] (0 : Nat)))) (fun t_115 => Walk Go.Proofs.Tryd.prog 52 (Cfg.mk Mode.run ((headTodo Go.Proofs.Tryd.prog 52 0).drop 3) (St.mk [AV.str (Prod.fst t_115), jj, jj, jj, jj, jj, jj, jj, jj, AV.view (0 : Nat) (0 : Nat) Option.none, AV.int IntKind.i64 (Prod.fst (Prod.snd t_115)), jj, jj, jj, jj, jj, jj, jj, jj, jj, jj, jj, jj, jj, jj, jj, jj, jj, jj, jj, jj, jj, jj, jj, jj, jj, jj, jj, jj, jj, jj, jj, jj, jj, jj, jj, jj, jj, jj, jj, jj, jj, jj, jj, jj, jj, jj, jj, jj, jj, jj, jj, jj, jj, jj, jj] [AO.row Ty.str (Prod.snd (Prod.snd t_115))] (0 : Nat))) (strings_genSplit_res r) (strings_genSplit_out r)) h (fun t_115 h => ?_) (fun s_121 x117 h117 K117 => ?_)
        ·
          refine W.needT 0 100000 h (by kernel_rfl) (fun h => ?_)
          refine W.needT 0 100000 h (by kernel_rfl) (fun h => ?_)
          refine W.needT 0 100000 h (by kernel_rfl) (fun h => ?_)
          exact W.retT 0 100000 h (by kernel_rfl)
        · unfold strings_genSplit_b0 at h117
          refine W.cond 2 100000 h117 (by kernel_rfl) (fun h117 => ?_) (fun h117 => ?_)
          ·
            refine W.bind h117 fun a_111 ha_111 h117 => ?_
            refine W.call 2 100000 (by kernel_rfl) (strings_Index_con ha_111) (by kernel_rfl) ?_
            refine W.cond 2 100000 h117 (by kernel_rfl) (fun h117 => ?_) (fun h117 => ?_)
            ·
              cases h117; exact W.at 2 100000 [] [0, 9, 10] (by kernel_rfl) K117
            ·
              refine W.needT 2 100000 h117 (by kernel_rfl) (fun h117 => ?_)
              refine W.needT 2 100000 h117 (by kernel_rfl) (fun h117 => ?_)
              refine W.needT 2 100000 h117 (by kernel_rfl) (fun h117 => ?_)
              refine W.needT 2 100000 h117 (by kernel_rfl) (fun h117 => ?_)
              cases h117; exact W.at 2 100000 [] [0, 1, 2, 3, 9, 10] (by kernel_rfl) K117
          ·
            cases h117; exact W.at 2 100000 [] [0, 9, 10] (by kernel_rfl) K117
      · refine W.next 0 2 (by kernel_rfl) ?_
        refine W.cond 1 100000 h118 (by kernel_rfl) (fun h118 => ?_) (fun h118 => ?_)
        ·
          refine W.bind h118 fun a_102 ha_102 h118 => ?_
          refine W.call 1 100000 (by kernel_rfl) (strings_Count_con ha_102) (by kernel_rfl) ?_
          cases h118; exact W.at 1 100000 [] [0, 1, 2, 3] (by kernel_rfl) K118
        ·
          cases h118; exact W.at 1 100000 [] [0, 1, 2, 3] (by kernel_rfl) K118

theorem strings_Split_con {s_51 : List UInt8} {sep_52 : List UInt8} {r : List (List UInt8)} (h : strings_Split s_51 sep_52 = some r) : Con Go.Proofs.Tryd.prog 45 [AV.str s_51, AV.str sep_52] [] (strings_Split_res r) (strings_Split_out r) := by
  refine W.con (by kernel_rfl) ?_
  unfold strings_Split at h
  refine W.bind h fun a_122 ha_122 h => ?_
  refine W.call 0 100000 (by kernel_rfl) (strings_genSplit_con ha_122) (by kernel_rfl) ?_
  exact W.retT 0 100000 h (by kernel_rfl)

theorem cellarerref02_Parts_con {s_126 : List UInt8} {r : List (List UInt8)} (h : cellarerref02_Parts s_126 = some r) : Con Go.Proofs.Tryd.prog 57 [AV.str s_126] [] (cellarerref02_Parts_res r) (cellarerref02_Parts_out r) := by
  refine W.con (by kernel_rfl) ?_
  unfold cellarerref02_Parts at h
  refine W.at 0 100000 [Co.own 3 (Ty.str)] [0, 3, 4, 5] (c' := (fun (s_141 : List UInt8 × Int × List (List UInt8)) => (Cfg.mk Mode.run (headTodo Go.Proofs.Tryd.prog 57 0) (St.mk [AV.str s_126, jj, jj, AV.view (0 : Nat) (0 : Nat) Option.none, AV.str (Prod.fst s_141), AV.int IntKind.i64 (Prod.fst (Prod.snd s_141)), jj, jj, jj, jj, jj, jj, jj, jj, jj, jj, jj, jj, jj, jj, jj, jj, jj, jj, jj, jj, jj, jj, jj, jj, jj, jj, jj, jj, jj, jj] [AO.row Ty.str (Prod.snd (Prod.snd s_141))] (0 : Nat)))) ([], (0 : Int), [])) (by kernel_rfl) ?_
  refine W.loop (fun (s_141 : List UInt8 × Int × List (List UInt8)) => (Cfg.mk Mode.run (headTodo Go.Proofs.Tryd.prog 57 0) (St.mk [AV.str s_126, jj, jj, AV.view (0 : Nat) (0 : Nat) Option.none, AV.str (Prod.fst s_141), AV.int IntKind.i64 (Prod.fst (Prod.snd s_141)), jj, jj, jj, jj, jj, jj, jj, jj, jj, jj, jj, jj, jj, jj, jj, jj, jj, jj, jj, jj, jj, jj, jj, jj, jj, jj, jj, jj, jj, jj] [AO.row Ty.str (Prod.snd (Prod.snd s_141))] (0 : Nat)))) (fun t_136 => Walk Go.Proofs.Tryd.prog 57 (Cfg.mk Mode.run ((headTodo Go.Proofs.Tryd.prog 57 0).drop 3) (St.mk [jj, jj, jj, AV.view (0 : Nat) (0 : Nat) Option.none, AV.str (Prod.fst t_136), jj, jj, jj, jj, jj, jj, jj, jj, jj, jj, jj, jj, jj, jj, jj, jj, jj, jj, jj, jj, jj, jj, jj, jj, jj, jj, jj, jj, jj, jj, jj] [AO.row Ty.str (Prod.snd t_136)] (0 : Nat))) (cellarerref02_Parts_res r) (cellarerref02_Parts_out r)) h (fun t_136 h => ?_) (fun s_141 x138 h138 K138 => ?_)
  ·
    refine W.cond 0 100000 h (by kernel_rfl) (fun h => ?_) (fun h => ?_)
    ·
      refine W.needT 0 100000 h (by kernel_rfl) (fun h => ?_)
      exact W.retT 0 100000 h (by kernel_rfl)
    ·
      exact W.retT 0 100000 h (by kernel_rfl)
  · unfold cellarerref02_Parts_b0 at h138
    refine W.cond 2 100000 h138 (by kernel_rfl) (fun h138 => ?_) (fun h138 => ?_)
    ·
      refine W.needT 2 100000 h138 (by kernel_rfl) (fun h138 => ?_)
      refine W.cond 2 100000 h138 (by kernel_rfl) (fun h138 => ?_) (fun h138 => ?_)
      ·
        refine W.needT 2 100000 h138 (by kernel_rfl) (fun h138 => ?_)
        refine W.needT 2 100000 h138 (by kernel_rfl) (fun h138 => ?_)
        cases h138; exact W.at 2 100000 [Co.own 3 (Ty.str)] [0, 3, 4, 5] (by kernel_rfl) K138
      ·
        refine W.cond 2 100000 h138 (by kernel_rfl) (fun h138 => ?_) (fun h138 => ?_)
        ·
          refine W.needT 2 100000 h138 (by kernel_rfl) (fun h138 => ?_)
          cases h138; exact W.at 2 100000 [Co.own 3 (Ty.str)] [0, 3, 4, 5] (by kernel_rfl) K138
        ·
          cases h138; exact W.at 2 100000 [Co.own 3 (Ty.str)] [0, 3, 4, 5] (by kernel_rfl) K138
    ·
      cases h138; exact W.at 2 100000 [] [3, 4] (by kernel_rfl) K138

theorem cellarerref02_Joined_con {l_143 : List (List UInt8)} {r : List UInt8} (h : cellarerref02_Joined l_143 = some r) : Con Go.Proofs.Tryd.prog 58 [AV.list Ty.str l_143 Bool.false] [] (cellarerref02_Joined_res r) (cellarerref02_Joined_out r) := by
  refine W.con (by kernel_rfl) ?_
  unfold cellarerref02_Joined at h
  refine W.cond 0 100000 h (by kernel_rfl) (fun h => ?_) (fun h => ?_)
  ·
    exact W.retT 0 100000 h (by kernel_rfl)
  ·
    refine W.at 0 100000 [] [0, 3, 4] (c' := (fun (s_153 : List UInt8 × Int) => (Cfg.mk Mode.run (headTodo Go.Proofs.Tryd.prog 58 0) (St.mk [AV.list Ty.str l_143 Bool.false, jj, jj, AV.str (Prod.fst s_153), AV.int IntKind.i64 (Prod.snd s_153), jj, jj, jj, jj, jj, jj, jj, jj, jj, jj, jj, jj, jj, jj, jj, jj, jj] [] (0 : Nat)))) ([], (0 : Int))) (by kernel_rfl) ?_
    refine W.loop (fun (s_153 : List UInt8 × Int) => (Cfg.mk Mode.run (headTodo Go.Proofs.Tryd.prog 58 0) (St.mk [AV.list Ty.str l_143 Bool.false, jj, jj, AV.str (Prod.fst s_153), AV.int IntKind.i64 (Prod.snd s_153), jj, jj, jj, jj, jj, jj, jj, jj, jj, jj, jj, jj, jj, jj, jj, jj, jj] [] (0 : Nat)))) (fun t_148 => Walk Go.Proofs.Tryd.prog 58 (Cfg.mk Mode.run ((headTodo Go.Proofs.Tryd.prog 58 0).drop 3) (St.mk [jj, jj, jj, AV.str t_148, jj, jj, jj, jj, jj, jj, jj, jj, jj, jj, jj, jj, jj, jj, jj, jj, jj, jj] [] (0 : Nat))) (cellarerref02_Joined_res r) (cellarerref02_Joined_out r)) h (fun t_148 h => ?_) (fun s_153 x150 h150 K150 => ?_)
    ·
      exact W.retT 0 100000 h (by kernel_rfl)
    · unfold cellarerref02_Joined_b0 at h150
      refine W.cond 2 100000 h150 (by kernel_rfl) (fun h150 => ?_) (fun h150 => ?_)
      ·
        refine W.needT 2 100000 h150 (by kernel_rfl) (fun h150 => ?_)
        refine W.needT 2 100000 h150 (by kernel_rfl) (fun h150 => ?_)
        refine W.needT 2 100000 h150 (by kernel_rfl) (fun h150 => ?_)
        cases h150; exact W.at 2 100000 [] [0, 3, 4] (by kernel_rfl) K150
      ·
        cases h150; exact W.at 2 100000 [] [3] (by kernel_rfl) K150

theorem cellarerref02_Clean_con {s_156 : List UInt8} {r : List UInt8 × Int} (h : cellarerref02_Clean s_156 = some r) : Con Go.Proofs.Tryd.prog 50 [AV.str s_156] [] (cellarerref02_Clean_res r) (cellarerref02_Clean_out r) := by
  refine W.con (by kernel_rfl) ?_
  unfold cellarerref02_Clean at h
  refine W.join (fun t => (Sum.elim (fun t_157 => r = ([], (1 : Int))) (fun t_158 => Walk Go.Proofs.Tryd.prog 50 (Cfg.mk Mode.run (seqTodo Go.Proofs.Tryd.prog 50 1) (St.mk [AV.str s_156, jj, jj, jj, jj, jj, jj, jj, jj, jj, jj, jj, jj, jj, jj, jj, jj, jj, jj, jj, jj, jj, jj, jj, jj, jj, jj, jj, jj, jj, jj, jj, jj, jj, jj, jj, jj, jj, jj, jj, jj, jj, jj, jj, jj, jj, jj, jj, jj, jj, jj, jj, jj, jj, jj, jj, jj, jj, jj, jj, jj, jj, jj, jj, jj, jj, jj, jj, jj, jj, jj, jj] [] (0 : Nat))) (cellarerref02_Clean_res r) (cellarerref02_Clean_out r))) t) h (fun t h => ?_) (fun t175 h175 K175 => ?_)
  ·
    rcases t with t_157 | t_158
    · replace h := W.inl (h)
      refine W.elimL (?_)
      exact (Option.some.inj h).symm
    · replace h := W.inr (h)
      refine W.elimR (?_)
      refine W.at 0 100000 [] [0, 4] (c' := (fun (s_180 : Int) => (Cfg.mk Mode.run (headTodo Go.Proofs.Tryd.prog 50 0) (St.mk [AV.str s_156, jj, jj, jj, AV.int IntKind.i64 s_180, jj, jj, jj, jj, jj, jj, jj, jj, jj, jj, jj, jj, jj, jj, jj, jj, jj, jj, jj, jj, jj, jj, jj, jj, jj, jj, jj, jj, jj, jj, jj, jj, jj, jj, jj, jj, jj, jj, jj, jj, jj, jj, jj, jj, jj, jj, jj, jj, jj, jj, jj, jj, jj, jj, jj, jj, jj, jj, jj, jj, jj, jj, jj, jj, jj, jj, jj] [] (0 : Nat)))) ((0 : Int))) (by kernel_rfl) ?_
      refine W.loop (fun (s_180 : Int) => (Cfg.mk Mode.run (headTodo Go.Proofs.Tryd.prog 50 0) (St.mk [AV.str s_156, jj, jj, jj, AV.int IntKind.i64 s_180, jj, jj, jj, jj, jj, jj, jj, jj, jj, jj, jj, jj, jj, jj, jj, jj, jj, jj, jj, jj, jj, jj, jj, jj, jj, jj, jj, jj, jj, jj, jj, jj, jj, jj, jj, jj, jj, jj, jj, jj, jj, jj, jj, jj, jj, jj, jj, jj, jj, jj, jj, jj, jj, jj, jj, jj, jj, jj, jj, jj, jj, jj, jj, jj, jj, jj, jj] [] (0 : Nat)))) (fun t => (Sum.elim (fun t_161 => r = ([], (1 : Int))) (fun t_162 => Walk Go.Proofs.Tryd.prog 50 (Cfg.mk Mode.run ((headTodo Go.Proofs.Tryd.prog 50 0).drop 3) (St.mk [AV.str s_156, jj, jj, jj, jj, jj, jj, jj, jj, jj, jj, jj, jj, jj, jj, jj, jj, jj, jj, jj, jj, jj, jj, jj, jj, jj, jj, jj, jj, jj, jj, jj, jj, jj, jj, jj, jj, jj, jj, jj, jj, jj, jj, jj, jj, jj, jj, jj, jj, jj, jj, jj, jj, jj, jj, jj, jj, jj, jj, jj, jj, jj, jj, jj, jj, jj, jj, jj, jj, jj, jj, jj] [] (0 : Nat))) (cellarerref02_Clean_res r) (cellarerref02_Clean_out r))) t) h (fun t h => ?_) (fun s_180 x174 h174 K174 => ?_)
      ·
        rcases t with t_161 | t_162
        · replace h := W.inl (h)
          refine W.elimL (?_)
          exact (Option.some.inj h).symm
        · replace h := W.inr (h)
          refine W.elimR (?_)
          refine W.bind h fun a_163 ha_163 h => ?_
          refine W.call 0 100000 (by kernel_rfl) (cellarerref02_Parts_con ha_163) (by kernel_rfl) ?_
          refine W.at 0 100000 [Co.own 6 (Ty.str)] [5, 6, 7] (c' := (fun (s_181 : Int × List (List UInt8)) => (Cfg.mk Mode.run (headTodo Go.Proofs.Tryd.prog 50 1) (St.mk [jj, jj, jj, jj, jj, AV.view (0 : Nat) (0 : Nat) Option.none, AV.view (1 : Nat) (0 : Nat) Option.none, AV.int IntKind.i64 (Prod.fst s_181), jj, jj, jj, jj, jj, jj, jj, jj, jj, jj, jj, jj, jj, jj, jj, jj, jj, jj, jj, jj, jj, jj, jj, jj, jj, jj, jj, jj, jj, jj, jj, jj, jj, jj, jj, jj, jj, jj, jj, jj, jj, jj, jj, jj, jj, jj, jj, jj, jj, jj, jj, jj, jj, jj, jj, jj, jj, jj, jj, jj, jj, jj, jj, jj] [AO.row Ty.str a_163, AO.row Ty.str (Prod.snd s_181)] (0 : Nat)))) ((0 : Int), [])) (by kernel_rfl) ?_
          refine W.loop (fun (s_181 : Int × List (List UInt8)) => (Cfg.mk Mode.run (headTodo Go.Proofs.Tryd.prog 50 1) (St.mk [jj, jj, jj, jj, jj, AV.view (0 : Nat) (0 : Nat) Option.none, AV.view (1 : Nat) (0 : Nat) Option.none, AV.int IntKind.i64 (Prod.fst s_181), jj, jj, jj, jj, jj, jj, jj, jj, jj, jj, jj, jj, jj, jj, jj, jj, jj, jj, jj, jj, jj, jj, jj, jj, jj, jj, jj, jj, jj, jj, jj, jj, jj, jj, jj, jj, jj, jj, jj, jj, jj, jj, jj, jj, jj, jj, jj, jj, jj, jj, jj, jj, jj, jj, jj, jj, jj, jj, jj, jj, jj, jj, jj, jj] [AO.row Ty.str a_163, AO.row Ty.str (Prod.snd s_181)] (0 : Nat)))) (fun t_170 => Walk Go.Proofs.Tryd.prog 50 (Cfg.mk Mode.run ((headTodo Go.Proofs.Tryd.prog 50 1).drop 3) (St.mk [jj, jj, jj, jj, jj, jj, AV.view (0 : Nat) (0 : Nat) Option.none, jj, jj, jj, jj, jj, jj, jj, jj, jj, jj, jj, jj, jj, jj, jj, jj, jj, jj, jj, jj, jj, jj, jj, jj, jj, jj, jj, jj, jj, jj, jj, jj, jj, jj, jj, jj, jj, jj, jj, jj, jj, jj, jj, jj, jj, jj, jj, jj, jj, jj, jj, jj, jj, jj, jj, jj, jj, jj, jj, jj, jj, jj, jj, jj, jj] [AO.row Ty.str t_170] (0 : Nat))) (cellarerref02_Clean_res r) (cellarerref02_Clean_out r)) h (fun t_170 h => ?_) (fun s_181 x173 h173 K173 => ?_)
          ·
            refine W.bind h fun a_171 ha_171 h => ?_
            refine W.call 0 100000 (by kernel_rfl) (cellarerref02_Joined_con ha_171) (by kernel_rfl) ?_
            refine W.cond 0 100000 h (by kernel_rfl) (fun h => ?_) (fun h => ?_)
            ·
              exact W.retT 0 100000 h (by kernel_rfl)
            ·
              exact W.retT 0 100000 h (by kernel_rfl)
          · unfold cellarerref02_Clean_b1 at h173
            refine W.cond 2 100000 h173 (by kernel_rfl) (fun h173 => ?_) (fun h173 => ?_)
            ·
              refine W.needT 2 100000 h173 (by kernel_rfl) (fun h173 => ?_)
              refine W.needT 2 100000 h173 (by kernel_rfl) (fun h173 => ?_)
              refine W.cond 2 100000 h173 (by kernel_rfl) (fun h173 => ?_) (fun h173 => ?_)
              ·
                refine W.cond 2 100000 h173 (by kernel_rfl) (fun h173 => ?_) (fun h173 => ?_)
                ·
                  refine W.needT 2 100000 h173 (by kernel_rfl) (fun h173 => ?_)
                  cases h173; exact W.at 2 100000 [Co.own 6 (Ty.str)] [5, 6, 7] (by kernel_rfl) K173
                ·
                  cases h173; exact W.at 2 100000 [Co.own 6 (Ty.str)] [5, 6, 7] (by kernel_rfl) K173
              ·
                refine W.needT 2 100000 h173 (by kernel_rfl) (fun h173 => ?_)
                refine W.needT 2 100000 h173 (by kernel_rfl) (fun h173 => ?_)
                refine W.cond 2 100000 h173 (by kernel_rfl) (fun h173 => ?_) (fun h173 => ?_)
                ·
                  refine W.needT 2 100000 h173 (by kernel_rfl) (fun h173 => ?_)
                  refine W.needT 2 100000 h173 (by kernel_rfl) (fun h173 => ?_)
                  refine W.needT 2 100000 h173 (by kernel_rfl) (fun h173 => ?_)
                  cases h173; exact W.at 2 100000 [Co.own 6 (Ty.str)] [5, 6, 7] (by kernel_rfl) K173
                ·
                  cases h173; exact W.at 2 100000 [Co.own 6 (Ty.str)] [5, 6, 7] (by kernel_rfl) K173
            ·
              cases h173; exact W.at 2 100000 [] [6] (by kernel_rfl) K173
      · unfold cellarerref02_Clean_b0 at h174
        refine W.cond 2 100000 h174 (by kernel_rfl) (fun h174 => ?_) (fun h174 => ?_)
        ·
          refine W.needT 2 100000 h174 (by kernel_rfl) (fun h174 => ?_)
          refine W.cond 2 100000 h174 (by kernel_rfl) (fun h174 => ?_) (fun h174 => ?_)
          ·
            refine W.yes 2 100000 (by kernel_rfl) ?_
            refine W.yes 2 100000 (by kernel_rfl) ?_
            refine W.yes 2 100000 (by kernel_rfl) ?_
            refine W.yes 2 100000 (by kernel_rfl) ?_
            refine W.yes 2 100000 (by kernel_rfl) ?_
            cases h174; exact W.retK 2 100000 K174 (by kernel_rfl)
          ·
            refine W.no 2 100000 (by kernel_rfl) ?_
            refine W.no 2 100000 (by kernel_rfl) ?_
            refine W.needT 2 100000 h174 (by kernel_rfl) (fun h174 => ?_)
            refine W.no 2 100000 (by kernel_rfl) ?_
            refine W.no 2 100000 (by kernel_rfl) ?_
            refine W.cond 2 100000 h174 (by kernel_rfl) (fun h174 => ?_) (fun h174 => ?_)
            ·
              cases h174; exact W.retK 2 100000 K174 (by kernel_rfl)
            ·
              cases h174; exact W.at 2 100000 [] [0, 4] (by kernel_rfl) K174
        ·
          cases h174; exact W.at 2 100000 [] [0] (by kernel_rfl) K174
  · refine W.next 0 6 (by kernel_rfl) ?_
    refine W.cond 1 100000 h175 (by kernel_rfl) (fun h175 => ?_) (fun h175 => ?_)
    ·
      refine W.yes 1 100000 (by kernel_rfl) ?_
      refine W.yes 1 100000 (by kernel_rfl) ?_
      refine W.yes 1 100000 (by kernel_rfl) ?_
      refine W.yes 1 100000 (by kernel_rfl) ?_
      cases h175; exact W.retK 1 100000 K175 (by kernel_rfl)
    ·
      refine W.no 1 100000 (by kernel_rfl) ?_
      refine W.needT 1 100000 h175 (by kernel_rfl) (fun h175 => ?_)
      refine W.no 1 100000 (by kernel_rfl) ?_
      refine W.no 1 100000 (by kernel_rfl) ?_
      refine W.cond 1 100000 h175 (by kernel_rfl) (fun h175 => ?_) (fun h175 => ?_)
      ·
        cases h175; exact W.retK 1 100000 K175 (by kernel_rfl)
      ·
        cases h175; exact W.at 1 100000 [] [0] (by kernel_rfl) K175

theorem cellarerref02_Right_con {s_155 : List UInt8} {r : Bool} (h : cellarerref02_Right s_155 = some r) : Con Go.Proofs.Tryd.prog 42 [AV.str s_155] [] (cellarerref02_Right_res r) (cellarerref02_Right_out r) := by
  refine W.con (by kernel_rfl) ?_
  unfold cellarerref02_Right at h
  refine W.bind h fun a_182 ha_182 h => ?_
  refine W.call 0 100000 (by kernel_rfl) (cellarerref02_Clean_con ha_182) (by kernel_rfl) ?_
  refine W.cond 0 100000 h (by kernel_rfl) (fun h => ?_) (fun h => ?_)
  ·
    refine W.yes 0 100000 (by kernel_rfl) ?_
    refine W.yes 0 100000 (by kernel_rfl) ?_
    refine W.yes 0 100000 (by kernel_rfl) ?_
    exact W.retT 0 100000 h (by kernel_rfl)
  ·
    refine W.no 0 100000 (by kernel_rfl) ?_
    refine W.no 0 100000 (by kernel_rfl) ?_
    refine W.no 0 100000 (by kernel_rfl) ?_
    exact W.retT 0 100000 h (by kernel_rfl)

theorem stringslite_HasPrefix_con {s_196 : List UInt8} {prefix_197 : List UInt8} {r : Bool} (h : stringslite_HasPrefix s_196 prefix_197 = some r) : Con Go.Proofs.Tryd.prog 73 [AV.str s_196, AV.str prefix_197] [] (stringslite_HasPrefix_res r) (stringslite_HasPrefix_out r) := by
  refine W.con (by kernel_rfl) ?_
  unfold stringslite_HasPrefix at h
  refine W.cond 0 100000 h (by kernel_rfl) (fun h => ?_) (fun h => ?_)
  ·
    refine W.yes 0 100000 (by kernel_rfl) ?_
    refine W.yes 0 100000 (by kernel_rfl) ?_
    refine W.yes 0 100000 (by kernel_rfl) ?_
    refine W.needT 0 100000 h (by kernel_rfl) (fun h => ?_)
    refine W.yes 0 100000 (by kernel_rfl) ?_
    refine W.yes 0 100000 (by kernel_rfl) ?_
    refine W.yes 0 100000 (by kernel_rfl) ?_
    exact W.retT 0 100000 h (by kernel_rfl)
  ·
    refine W.no 0 100000 (by kernel_rfl) ?_
    refine W.no 0 100000 (by kernel_rfl) ?_
    refine W.no 0 100000 (by kernel_rfl) ?_
    refine W.no 0 100000 (by kernel_rfl) ?_
    refine W.no 0 100000 (by kernel_rfl) ?_
    refine W.no 0 100000 (by kernel_rfl) ?_
    exact W.retT 0 100000 h (by kernel_rfl)

theorem strings_HasPrefix_con {s_194 : List UInt8} {prefix_195 : List UInt8} {r : Bool} (h : strings_HasPrefix s_194 prefix_195 = some r) : Con Go.Proofs.Tryd.prog 63 [AV.str s_194, AV.str prefix_195] [] (strings_HasPrefix_res r) (strings_HasPrefix_out r) := by
  refine W.con (by kernel_rfl) ?_
  unfold strings_HasPrefix at h
  refine W.bind h fun a_200 ha_200 h => ?_
  refine W.call 0 100000 (by kernel_rfl) (stringslite_HasPrefix_con ha_200) (by kernel_rfl) ?_
  exact W.retT 0 100000 h (by kernel_rfl)

theorem path_plain_con {s_188 : List UInt8} {r : Bool} (h : path_plain s_188 = some r) : Con Go.Proofs.Tryd.prog 54 [AV.str s_188] [] (path_plain_res r) (path_plain_out r) := by
  refine W.con (by kernel_rfl) ?_
  unfold path_plain at h
  refine W.at 0 100000 [] [0, 5, 6] (c' := (fun (s_208 : Int) => (Cfg.mk Mode.run (headTodo Go.Proofs.Tryd.prog 54 0) (St.mk [AV.str s_188, jj, jj, jj, jj, AV.int IntKind.i64 (↑(List.length s_188) : Int), AV.int IntKind.i64 s_208, jj, jj, jj, jj, jj, jj, jj, jj, jj, jj, jj, jj, jj, jj, jj] [] (0 : Nat)))) ((0 : Int))) (by kernel_rfl) ?_
  refine W.loop (fun (s_208 : Int) => (Cfg.mk Mode.run (headTodo Go.Proofs.Tryd.prog 54 0) (St.mk [AV.str s_188, jj, jj, jj, jj, AV.int IntKind.i64 (↑(List.length s_188) : Int), AV.int IntKind.i64 s_208, jj, jj, jj, jj, jj, jj, jj, jj, jj, jj, jj, jj, jj, jj, jj] [] (0 : Nat)))) (fun t => (Sum.elim (fun t_192 => r = (Bool.false)) (fun t_193 => Walk Go.Proofs.Tryd.prog 54 (Cfg.mk Mode.run ((headTodo Go.Proofs.Tryd.prog 54 0).drop 3) (St.mk [AV.str s_188, jj, jj, jj, jj, jj, jj, jj, jj, jj, jj, jj, jj, jj, jj, jj, jj, jj, jj, jj, jj, jj] [] (0 : Nat))) (path_plain_res r) (path_plain_out r))) t) h (fun t h => ?_) (fun s_208 x205 h205 K205 => ?_)
  ·
    rcases t with t_192 | t_193
    · replace h := W.inl (h)
      refine W.elimL (?_)
      exact (Option.some.inj h).symm
    · replace h := W.inr (h)
      refine W.elimR (?_)
      refine W.bind h fun a_203 ha_203 h => ?_
      refine W.call 0 100000 (by kernel_rfl) (strings_HasPrefix_con ha_203) (by kernel_rfl) ?_
      exact W.retT 0 100000 h (by kernel_rfl)
  · unfold path_plain_b0 at h205
    refine W.cond 2 100000 h205 (by kernel_rfl) (fun h205 => ?_) (fun h205 => ?_)
    ·
      refine W.needT 2 100000 h205 (by kernel_rfl) (fun h205 => ?_)
      refine W.cond 2 100000 h205 (by kernel_rfl) (fun h205 => ?_) (fun h205 => ?_)
      ·
        refine W.yes 2 100000 (by kernel_rfl) ?_
        refine W.yes 2 100000 (by kernel_rfl) ?_
        refine W.yes 2 100000 (by kernel_rfl) ?_
        refine W.yes 2 100000 (by kernel_rfl) ?_
        refine W.yes 2 100000 (by kernel_rfl) ?_
        cases h205; exact W.retK 2 100000 K205 (by kernel_rfl)
      ·
        refine W.no 2 100000 (by kernel_rfl) ?_
        refine W.no 2 100000 (by kernel_rfl) ?_
        refine W.needT 2 100000 h205 (by kernel_rfl) (fun h205 => ?_)
        refine W.no 2 100000 (by kernel_rfl) ?_
        refine W.no 2 100000 (by kernel_rfl) ?_
        refine W.cond 2 100000 h205 (by kernel_rfl) (fun h205 => ?_) (fun h205 => ?_)
        ·
          cases h205; exact W.retK 2 100000 K205 (by kernel_rfl)
        ·
          cases h205; exact W.at 2 100000 [] [0, 5, 6] (by kernel_rfl) K205
    ·
      cases h205; exact W.at 2 100000 [] [0] (by kernel_rfl) K205

theorem path_Parts_1_con {p_216 : List UInt8} {r : Bool} (h : path_Parts_1 p_216 = some r) : Con Go.Proofs.Tryd.prog 65 [AV.str p_216] [] (path_Parts_1_res r) (path_Parts_1_out r) := by
  refine W.con (by kernel_rfl) ?_
  unfold path_Parts_1 at h
  exact W.retT 0 100000 h (by kernel_rfl)

theorem path_keep_string__con {l_212 : List (List UInt8)} {r : List (List UInt8)} (h : path_keep_string_ l_212 = some r) : Con Go.Proofs.Tryd.prog 64 [AV.list Ty.str l_212 Bool.false, AV.func (Go.Fn.func (65 : Nat)) [] []] [] (path_keep_string__res r) (path_keep_string__out r) := by
  refine W.con (by kernel_rfl) ?_
  unfold path_keep_string_ at h
  refine W.at 0 100000 [Co.own 5 (Ty.str)] [1, 5, 8, 9, 10] (c' := (fun (s_231 : Int × List (List UInt8)) => (Cfg.mk Mode.run (headTodo Go.Proofs.Tryd.prog 64 0) (St.mk [jj, AV.func (Go.Fn.func (65 : Nat)) [] [], jj, jj, jj, AV.view (0 : Nat) (0 : Nat) Option.none, jj, jj, AV.list Ty.str l_212 Bool.false, AV.int IntKind.i64 (↑(List.length l_212) : Int), AV.int IntKind.i64 (Prod.fst s_231), jj, jj, jj, jj, jj, jj, jj, jj, jj, jj, jj, jj] [AO.row Ty.str (Prod.snd s_231)] (0 : Nat)))) ((0 : Int), [])) (by kernel_rfl) ?_
  refine W.loop (fun (s_231 : Int × List (List UInt8)) => (Cfg.mk Mode.run (headTodo Go.Proofs.Tryd.prog 64 0) (St.mk [jj, AV.func (Go.Fn.func (65 : Nat)) [] [], jj, jj, jj, AV.view (0 : Nat) (0 : Nat) Option.none, jj, jj, AV.list Ty.str l_212 Bool.false, AV.int IntKind.i64 (↑(List.length l_212) : Int), AV.int IntKind.i64 (Prod.fst s_231), jj, jj, jj, jj, jj, jj, jj, jj, jj, jj, jj, jj] [AO.row Ty.str (Prod.snd s_231)] (0 : Nat)))) (fun t_226 => Walk Go.Proofs.Tryd.prog 64 (Cfg.mk Mode.run ((headTodo Go.Proofs.Tryd.prog 64 0).drop 3) (St.mk [jj, jj, jj, jj, jj, AV.view (0 : Nat) (0 : Nat) Option.none, jj, jj, jj, jj, jj, jj, jj, jj, jj, jj, jj, jj, jj, jj, jj, jj, jj] [AO.row Ty.str t_226] (0 : Nat))) (path_keep_string__res r) (path_keep_string__out r)) h (fun t_226 h => ?_) (fun s_231 x228 h228 K228 => ?_)
  ·
    exact W.retT 0 100000 h (by kernel_rfl)
  · unfold path_keep_string__b0 at h228
    refine W.cond 2 100000 h228 (by kernel_rfl) (fun h228 => ?_) (fun h228 => ?_)
    ·
      refine W.needT 2 100000 h228 (by kernel_rfl) (fun h228 => ?_)
      refine W.bind h228 fun a_224 ha_224 h228 => ?_
      refine W.call 2 100000 (by kernel_rfl) (path_Parts_1_con ha_224) (by kernel_rfl) ?_
      refine W.cond 2 100000 h228 (by kernel_rfl) (fun h228 => ?_) (fun h228 => ?_)
      ·
        refine W.needT 2 100000 h228 (by kernel_rfl) (fun h228 => ?_)
        cases h228; exact W.at 2 100000 [Co.own 5 (Ty.str)] [1, 5, 8, 9, 10] (by kernel_rfl) K228
      ·
        cases h228; exact W.at 2 100000 [Co.own 5 (Ty.str)] [1, 5, 8, 9, 10] (by kernel_rfl) K228
    ·
      cases h228; exact W.at 2 100000 [] [5] (by kernel_rfl) K228

theorem path_Parts_con {s_210 : List UInt8} {r : List (List UInt8)} (h : path_Parts s_210 = some r) : Con Go.Proofs.Tryd.prog 55 [AV.str s_210] [] (path_Parts_res r) (path_Parts_out r) := by
  refine W.con (by kernel_rfl) ?_
  unfold path_Parts at h
  refine W.bind h fun a_211 ha_211 h => ?_
  refine W.call 0 100000 (by kernel_rfl) (strings_Split_con ha_211) (by kernel_rfl) ?_
  refine W.bind h fun a_232 ha_232 h => ?_
  refine W.call 0 100000 (by kernel_rfl) (path_keep_string__con ha_232) (by kernel_rfl) ?_
  exact W.retT 0 100000 h (by kernel_rfl)

theorem path_Clean_con {s_187 : List UInt8} {r : List UInt8 × Int} (h : path_Clean s_187 = some r) : Con Go.Proofs.Tryd.prog 49 [AV.str s_187] [] (path_Clean_res r) (path_Clean_out r) := by
  refine W.con (by kernel_rfl) ?_
  unfold path_Clean at h
  refine W.bind h fun a_209 ha_209 h => ?_
  refine W.call 0 100000 (by kernel_rfl) (path_plain_con ha_209) (by kernel_rfl) ?_
  refine W.cond 0 100000 h (by kernel_rfl) (fun h => ?_) (fun h => ?_)
  ·
    exact W.retT 0 100000 h (by kernel_rfl)
  ·
    refine W.bind h fun a_235 ha_235 h => ?_
    refine W.call 0 100000 (by kernel_rfl) (path_Parts_con ha_235) (by kernel_rfl) ?_
    refine W.at 0 100000 [Co.own 4 (Ty.str)] [4, 12, 13, 14] (c' := (fun (s_251 : Int × List (List UInt8)) => (Cfg.mk Mode.run (headTodo Go.Proofs.Tryd.prog 49 0) (St.mk [jj, jj, jj, jj, AV.view (0 : Nat) (0 : Nat) Option.none, jj, jj, jj, jj, jj, jj, jj, AV.view (1 : Nat) (0 : Nat) Option.none, AV.int IntKind.i64 ((↑(List.length a_235) : Int) - (↑(0 : Nat) : Int)), AV.int IntKind.i64 (Prod.fst s_251), jj, jj, jj, jj, jj, jj, jj, jj, jj, jj, jj, jj, jj, jj, jj, jj, jj, jj, jj, jj, jj, jj, jj, jj, jj, jj, jj] [AO.row Ty.str (Prod.snd s_251), AO.row Ty.str a_235] (0 : Nat)))) ((0 : Int), [])) (by kernel_rfl) ?_
    refine W.loop (fun (s_251 : Int × List (List UInt8)) => (Cfg.mk Mode.run (headTodo Go.Proofs.Tryd.prog 49 0) (St.mk [jj, jj, jj, jj, AV.view (0 : Nat) (0 : Nat) Option.none, jj, jj, jj, jj, jj, jj, jj, AV.view (1 : Nat) (0 : Nat) Option.none, AV.int IntKind.i64 ((↑(List.length a_235) : Int) - (↑(0 : Nat) : Int)), AV.int IntKind.i64 (Prod.fst s_251), jj, jj, jj, jj, jj, jj, jj, jj, jj, jj, jj, jj, jj, jj, jj, jj, jj, jj, jj, jj, jj, jj, jj, jj, jj, jj, jj] [AO.row Ty.str (Prod.snd s_251), AO.row Ty.str a_235] (0 : Nat)))) (fun t_244 => Walk Go.Proofs.Tryd.prog 49 (Cfg.mk Mode.run ((headTodo Go.Proofs.Tryd.prog 49 0).drop 3) (St.mk [jj, jj, jj, jj, AV.view (0 : Nat) (0 : Nat) Option.none, jj, jj, jj, jj, jj, jj, jj, jj, jj, jj, jj, jj, jj, jj, jj, jj, jj, jj, jj, jj, jj, jj, jj, jj, jj, jj, jj, jj, jj, jj, jj, jj, jj, jj, jj, jj, jj] [AO.row Ty.str t_244] (0 : Nat))) (path_Clean_res r) (path_Clean_out r)) h (fun t_244 h => ?_) (fun s_251 x247 h247 K247 => ?_)
    ·
      refine W.bind h fun a_245 ha_245 h => ?_
      refine W.call 0 100000 (by kernel_rfl) (strings_Join_con ha_245) (by kernel_rfl) ?_
      refine W.needT 0 100000 h (by kernel_rfl) (fun h => ?_)
      refine W.cond 0 100000 h (by kernel_rfl) (fun h => ?_) (fun h => ?_)
      ·
        exact W.retT 0 100000 h (by kernel_rfl)
      ·
        exact W.retT 0 100000 h (by kernel_rfl)
    · unfold path_Clean_b0 at h247
      refine W.cond 2 100000 h247 (by kernel_rfl) (fun h247 => ?_) (fun h247 => ?_)
      ·
        refine W.needT 2 100000 h247 (by kernel_rfl) (fun h247 => ?_)
        refine W.needT 2 100000 h247 (by kernel_rfl) (fun h247 => ?_)
        refine W.cond 2 100000 h247 (by kernel_rfl) (fun h247 => ?_) (fun h247 => ?_)
        ·
          cases h247; exact W.at 2 100000 [Co.own 4 (Ty.str)] [4, 12, 13, 14] (by kernel_rfl) K247
        ·
          refine W.cond 2 100000 h247 (by kernel_rfl) (fun h247 => ?_) (fun h247 => ?_)
          ·
            refine W.needT 2 100000 h247 (by kernel_rfl) (fun h247 => ?_)
            cases h247; exact W.at 2 100000 [Co.own 4 (Ty.str)] [4, 12, 13, 14] (by kernel_rfl) K247
          ·
            refine W.needT 2 100000 h247 (by kernel_rfl) (fun h247 => ?_)
            cases h247; exact W.at 2 100000 [Co.own 4 (Ty.str)] [4, 12, 13, 14] (by kernel_rfl) K247
      ·
        cases h247; exact W.at 2 100000 [] [4] (by kernel_rfl) K247

theorem path_Right_con {s_186 : List UInt8} {r : Bool} (h : path_Right s_186 = some r) : Con Go.Proofs.Tryd.prog 40 [AV.str s_186] [] (path_Right_res r) (path_Right_out r) := by
  refine W.con (by kernel_rfl) ?_
  unfold path_Right at h
  refine W.bind h fun a_252 ha_252 h => ?_
  refine W.call 0 100000 (by kernel_rfl) (path_Clean_con ha_252) (by kernel_rfl) ?_
  refine W.cond 0 100000 h (by kernel_rfl) (fun h => ?_) (fun h => ?_)
  ·
    refine W.yes 0 100000 (by kernel_rfl) ?_
    refine W.yes 0 100000 (by kernel_rfl) ?_
    refine W.yes 0 100000 (by kernel_rfl) ?_
    exact W.retT 0 100000 h (by kernel_rfl)
  ·
    refine W.no 0 100000 (by kernel_rfl) ?_
    refine W.no 0 100000 (by kernel_rfl) ?_
    refine W.no 0 100000 (by kernel_rfl) ?_
    exact W.retT 0 100000 h (by kernel_rfl)

theorem stanza_Lines_con {s_256 : List UInt8} {r : Int × List (List UInt8)} (h : stanza_Lines s_256 = some r) : Con Go.Proofs.Tryd.prog 31 [AV.str s_256] [] (stanza_Lines_res r) (stanza_Lines_out r) := by
  refine W.con (by kernel_rfl) ?_
  unfold stanza_Lines at h
  refine W.cond 0 100000 h (by kernel_rfl) (fun h => ?_) (fun h => ?_)
  ·
    exact W.retT 0 100000 h (by kernel_rfl)
  ·
    refine W.bind h fun a_257 ha_257 h => ?_
    refine W.call 0 100000 (by kernel_rfl) (strings_HasSuffix_con ha_257) (by kernel_rfl) ?_
    refine W.cond 0 100000 h (by kernel_rfl) (fun h => ?_) (fun h => ?_)
    ·
      exact W.retT 0 100000 h (by kernel_rfl)
    ·
      refine W.needT 0 100000 h (by kernel_rfl) (fun h => ?_)
      refine W.bind h fun a_258 ha_258 h => ?_
      refine W.call 0 100000 (by kernel_rfl) (strings_Split_con ha_258) (by kernel_rfl) ?_
      exact W.retT 0 100000 h (by kernel_rfl)

theorem cellarerref06_Split_con {s_264 : List UInt8} {c_265 : Int} {r : List (List UInt8)} (h : cellarerref06_Split s_264 c_265 = some r) : Con Go.Proofs.Tryd.prog 46 [AV.str s_264, AV.int IntKind.u8 c_265] [] (cellarerref06_Split_res r) (cellarerref06_Split_out r) := by
  refine W.con (by kernel_rfl) ?_
  unfold cellarerref06_Split at h
  refine W.at 0 100000 [Co.own 5 (Ty.str)] [0, 1, 5, 6, 7] (c' := (fun (s_282 : List UInt8 × Int × List (List UInt8)) => (Cfg.mk Mode.run (headTodo Go.Proofs.Tryd.prog 46 0) (St.mk [AV.str s_264, AV.int IntKind.u8 c_265, jj, jj, jj, AV.view (0 : Nat) (0 : Nat) Option.none, AV.str (Prod.fst s_282), AV.int IntKind.i64 (Prod.fst (Prod.snd s_282)), jj, jj, jj, jj, jj, jj, jj, jj, jj, jj, jj, jj, jj, jj, jj, jj, jj, jj, jj, jj, jj, jj, jj, jj, jj, jj] [AO.row Ty.str (Prod.snd (Prod.snd s_282))] (0 : Nat)))) ([], (0 : Int), [])) (by kernel_rfl) ?_
  refine W.loop (fun (s_282 : List UInt8 × Int × List (List UInt8)) => (Cfg.mk Mode.run (headTodo Go.Proofs.Tryd.prog 46 0) (St.mk [AV.str s_264, AV.int IntKind.u8 c_265, jj, jj, jj, AV.view (0 : Nat) (0 : Nat) Option.none, AV.str (Prod.fst s_282), AV.int IntKind.i64 (Prod.fst (Prod.snd s_282)), jj, jj, jj, jj, jj, jj, jj, jj, jj, jj, jj, jj, jj, jj, jj, jj, jj, jj, jj, jj, jj, jj, jj, jj, jj, jj] [AO.row Ty.str (Prod.snd (Prod.snd s_282))] (0 : Nat)))) (fun t_277 => Walk Go.Proofs.Tryd.prog 46 (Cfg.mk Mode.run ((headTodo Go.Proofs.Tryd.prog 46 0).drop 3) (St.mk [jj, jj, jj, jj, jj, AV.view (0 : Nat) (0 : Nat) Option.none, AV.str (Prod.fst t_277), jj, jj, jj, jj, jj, jj, jj, jj, jj, jj, jj, jj, jj, jj, jj, jj, jj, jj, jj, jj, jj, jj, jj, jj, jj, jj, jj] [AO.row Ty.str (Prod.snd t_277)] (0 : Nat))) (cellarerref06_Split_res r) (cellarerref06_Split_out r)) h (fun t_277 h => ?_) (fun s_282 x279 h279 K279 => ?_)
  ·
    refine W.needT 0 100000 h (by kernel_rfl) (fun h => ?_)
    exact W.retT 0 100000 h (by kernel_rfl)
  · unfold cellarerref06_Split_b0 at h279
    refine W.cond 2 100000 h279 (by kernel_rfl) (fun h279 => ?_) (fun h279 => ?_)
    ·
      refine W.needT 2 100000 h279 (by kernel_rfl) (fun h279 => ?_)
      refine W.cond 2 100000 h279 (by kernel_rfl) (fun h279 => ?_) (fun h279 => ?_)
      ·
        refine W.needT 2 100000 h279 (by kernel_rfl) (fun h279 => ?_)
        cases h279; exact W.at 2 100000 [Co.own 5 (Ty.str)] [0, 1, 5, 6, 7] (by kernel_rfl) K279
      ·
        refine W.needT 2 100000 h279 (by kernel_rfl) (fun h279 => ?_)
        refine W.needT 2 100000 h279 (by kernel_rfl) (fun h279 => ?_)
        cases h279; exact W.at 2 100000 [Co.own 5 (Ty.str)] [0, 1, 5, 6, 7] (by kernel_rfl) K279
    ·
      cases h279; exact W.at 2 100000 [] [5, 6] (by kernel_rfl) K279

theorem cellarerref06_Lines_con {s_284 : List UInt8} {r : Bool × List (List UInt8)} (h : cellarerref06_Lines s_284 = some r) : Con Go.Proofs.Tryd.prog 32 [AV.str s_284] [] (cellarerref06_Lines_res r) (cellarerref06_Lines_out r) := by
  refine W.con (by kernel_rfl) ?_
  unfold cellarerref06_Lines at h
  refine W.bind h fun a_285 ha_285 h => ?_
  refine W.call 0 100000 (by kernel_rfl) (cellarerref06_Split_con ha_285) (by kernel_rfl) ?_
  refine W.needT 0 100000 h (by kernel_rfl) (fun h => ?_)
  refine W.needT 0 100000 h (by kernel_rfl) (fun h => ?_)
  refine W.needT 0 100000 h (by kernel_rfl) (fun h => ?_)
  exact W.retT 0 100000 h (by kernel_rfl)

theorem divs_Right_con {x_290 : List UInt8} {x_291 : List UInt8} {x_292 : List UInt8} {r : Bool} (h : divs_Right x_290 x_291 x_292 = some r) : Con Go.Proofs.Tryd.prog 27 [AV.agg [AV.str x_290, AV.str x_291, AV.str x_292]] [] (divs_Right_res r) (divs_Right_out r) := by
  refine W.con (by kernel_rfl) ?_
  unfold divs_Right at h
  refine W.bind h fun a_293 ha_293 h => ?_
  refine W.call 0 100000 (by kernel_rfl) (path_Right_con ha_293) (by kernel_rfl) ?_
  refine W.cond 0 100000 h (by kernel_rfl) (fun h => ?_) (fun h => ?_)
  ·
    refine W.yes 0 100000 (by kernel_rfl) ?_
    refine W.yes 0 100000 (by kernel_rfl) ?_
    refine W.bind h fun a_294 ha_294 h => ?_
    refine W.call 0 100000 (by kernel_rfl) (path_Right_con ha_294) (by kernel_rfl) ?_
    refine W.yes 0 100000 (by kernel_rfl) ?_
    refine W.cond 0 100000 h (by kernel_rfl) (fun h => ?_) (fun h => ?_)
    ·
      refine W.yes 0 100000 (by kernel_rfl) ?_
      refine W.yes 0 100000 (by kernel_rfl) ?_
      refine W.yes 0 100000 (by kernel_rfl) ?_
      refine W.yes 0 100000 (by kernel_rfl) ?_
      refine W.yes 0 100000 (by kernel_rfl) ?_
      refine W.cond 0 100000 h (by kernel_rfl) (fun h => ?_) (fun h => ?_)
      ·
        refine W.yes 0 100000 (by kernel_rfl) ?_
        refine W.yes 0 100000 (by kernel_rfl) ?_
        refine W.yes 0 100000 (by kernel_rfl) ?_
        refine W.cond 0 100000 h (by kernel_rfl) (fun h => ?_) (fun h => ?_)
        ·
          refine W.yes 0 100000 (by kernel_rfl) ?_
          refine W.yes 0 100000 (by kernel_rfl) ?_
          refine W.yes 0 100000 (by kernel_rfl) ?_
          refine W.cond 0 100000 h (by kernel_rfl) (fun h => ?_) (fun h => ?_)
          ·
            refine W.yes 0 100000 (by kernel_rfl) ?_
            refine W.yes 0 100000 (by kernel_rfl) ?_
            refine W.yes 0 100000 (by kernel_rfl) ?_
            refine W.cond 0 100000 h (by kernel_rfl) (fun h => ?_) (fun h => ?_)
            ·
              refine W.yes 0 100000 (by kernel_rfl) ?_
              refine W.yes 0 100000 (by kernel_rfl) ?_
              refine W.yes 0 100000 (by kernel_rfl) ?_
              refine W.yes 0 100000 (by kernel_rfl) ?_
              refine W.yes 0 100000 (by kernel_rfl) ?_
              exact W.retT 0 100000 h (by kernel_rfl)
            ·
              refine W.no 0 100000 (by kernel_rfl) ?_
              refine W.no 0 100000 (by kernel_rfl) ?_
              refine W.bind h fun a_295 ha_295 h => ?_
              refine W.call 0 100000 (by kernel_rfl) (path_Name_con ha_295) (by kernel_rfl) ?_
              refine W.yes 0 100000 (by kernel_rfl) ?_
              refine W.no 0 100000 (by kernel_rfl) ?_
              refine W.yes 0 100000 (by kernel_rfl) ?_
              exact W.retT 0 100000 h (by kernel_rfl)
          ·
            refine W.no 0 100000 (by kernel_rfl) ?_
            refine W.no 0 100000 (by kernel_rfl) ?_
            refine W.no 0 100000 (by kernel_rfl) ?_
            refine W.no 0 100000 (by kernel_rfl) ?_
            refine W.no 0 100000 (by kernel_rfl) ?_
            exact W.retT 0 100000 h (by kernel_rfl)
        ·
          refine W.no 0 100000 (by kernel_rfl) ?_
          refine W.no 0 100000 (by kernel_rfl) ?_
          refine W.no 0 100000 (by kernel_rfl) ?_
          refine W.no 0 100000 (by kernel_rfl) ?_
          refine W.no 0 100000 (by kernel_rfl) ?_
          refine W.no 0 100000 (by kernel_rfl) ?_
          refine W.no 0 100000 (by kernel_rfl) ?_
          refine W.no 0 100000 (by kernel_rfl) ?_
          refine W.no 0 100000 (by kernel_rfl) ?_
          exact W.retT 0 100000 h (by kernel_rfl)
      ·
        refine W.no 0 100000 (by kernel_rfl) ?_
        refine W.no 0 100000 (by kernel_rfl) ?_
        refine W.no 0 100000 (by kernel_rfl) ?_
        refine W.no 0 100000 (by kernel_rfl) ?_
        refine W.no 0 100000 (by kernel_rfl) ?_
        refine W.no 0 100000 (by kernel_rfl) ?_
        refine W.no 0 100000 (by kernel_rfl) ?_
        refine W.no 0 100000 (by kernel_rfl) ?_
        refine W.no 0 100000 (by kernel_rfl) ?_
        refine W.no 0 100000 (by kernel_rfl) ?_
        refine W.no 0 100000 (by kernel_rfl) ?_
        refine W.no 0 100000 (by kernel_rfl) ?_
        refine W.no 0 100000 (by kernel_rfl) ?_
        exact W.retT 0 100000 h (by kernel_rfl)
    ·
      refine W.no 0 100000 (by kernel_rfl) ?_
      refine W.no 0 100000 (by kernel_rfl) ?_
      refine W.no 0 100000 (by kernel_rfl) ?_
      refine W.no 0 100000 (by kernel_rfl) ?_
      refine W.no 0 100000 (by kernel_rfl) ?_
      refine W.no 0 100000 (by kernel_rfl) ?_
      refine W.no 0 100000 (by kernel_rfl) ?_
      refine W.no 0 100000 (by kernel_rfl) ?_
      refine W.no 0 100000 (by kernel_rfl) ?_
      refine W.no 0 100000 (by kernel_rfl) ?_
      refine W.no 0 100000 (by kernel_rfl) ?_
      refine W.no 0 100000 (by kernel_rfl) ?_
      refine W.no 0 100000 (by kernel_rfl) ?_
      refine W.no 0 100000 (by kernel_rfl) ?_
      refine W.no 0 100000 (by kernel_rfl) ?_
      refine W.no 0 100000 (by kernel_rfl) ?_
      refine W.no 0 100000 (by kernel_rfl) ?_
      refine W.no 0 100000 (by kernel_rfl) ?_
      refine W.no 0 100000 (by kernel_rfl) ?_
      exact W.retT 0 100000 h (by kernel_rfl)
  ·
    refine W.no 0 100000 (by kernel_rfl) ?_
    refine W.no 0 100000 (by kernel_rfl) ?_
    refine W.no 0 100000 (by kernel_rfl) ?_
    refine W.no 0 100000 (by kernel_rfl) ?_
    refine W.no 0 100000 (by kernel_rfl) ?_
    refine W.no 0 100000 (by kernel_rfl) ?_
    refine W.no 0 100000 (by kernel_rfl) ?_
    refine W.no 0 100000 (by kernel_rfl) ?_
    refine W.no 0 100000 (by kernel_rfl) ?_
    refine W.no 0 100000 (by kernel_rfl) ?_
    refine W.no 0 100000 (by kernel_rfl) ?_
    refine W.no 0 100000 (by kernel_rfl) ?_
    refine W.no 0 100000 (by kernel_rfl) ?_
    refine W.no 0 100000 (by kernel_rfl) ?_
    refine W.no 0 100000 (by kernel_rfl) ?_
    refine W.no 0 100000 (by kernel_rfl) ?_
    refine W.no 0 100000 (by kernel_rfl) ?_
    refine W.no 0 100000 (by kernel_rfl) ?_
    refine W.no 0 100000 (by kernel_rfl) ?_
    refine W.no 0 100000 (by kernel_rfl) ?_
    refine W.no 0 100000 (by kernel_rfl) ?_
    refine W.no 0 100000 (by kernel_rfl) ?_
    refine W.no 0 100000 (by kernel_rfl) ?_
    exact W.retT 0 100000 h (by kernel_rfl)

theorem cellarerref09_Right_con {x_299 : List UInt8} {x_300 : List UInt8} {x_301 : List UInt8} {r : Bool} (h : cellarerref09_Right x_299 x_300 x_301 = some r) : Con Go.Proofs.Tryd.prog 28 [AV.agg [AV.str x_299, AV.str x_300, AV.str x_301]] [] (cellarerref09_Right_res r) (cellarerref09_Right_out r) := by
  refine W.con (by kernel_rfl) ?_
  unfold cellarerref09_Right at h
  refine W.bind h fun a_302 ha_302 h => ?_
  refine W.call 0 100000 (by kernel_rfl) (cellarerref02_Right_con ha_302) (by kernel_rfl) ?_
  refine W.cond 0 100000 h (by kernel_rfl) (fun h => ?_) (fun h => ?_)
  ·
    refine W.yes 0 100000 (by kernel_rfl) ?_
    refine W.yes 0 100000 (by kernel_rfl) ?_
    refine W.bind h fun a_303 ha_303 h => ?_
    refine W.call 0 100000 (by kernel_rfl) (cellarerref02_Right_con ha_303) (by kernel_rfl) ?_
    refine W.yes 0 100000 (by kernel_rfl) ?_
    refine W.cond 0 100000 h (by kernel_rfl) (fun h => ?_) (fun h => ?_)
    ·
      refine W.yes 0 100000 (by kernel_rfl) ?_
      refine W.yes 0 100000 (by kernel_rfl) ?_
      refine W.yes 0 100000 (by kernel_rfl) ?_
      refine W.yes 0 100000 (by kernel_rfl) ?_
      refine W.yes 0 100000 (by kernel_rfl) ?_
      refine W.cond 0 100000 h (by kernel_rfl) (fun h => ?_) (fun h => ?_)
      ·
        refine W.yes 0 100000 (by kernel_rfl) ?_
        refine W.yes 0 100000 (by kernel_rfl) ?_
        refine W.yes 0 100000 (by kernel_rfl) ?_
        refine W.cond 0 100000 h (by kernel_rfl) (fun h => ?_) (fun h => ?_)
        ·
          refine W.yes 0 100000 (by kernel_rfl) ?_
          refine W.yes 0 100000 (by kernel_rfl) ?_
          refine W.yes 0 100000 (by kernel_rfl) ?_
          refine W.cond 0 100000 h (by kernel_rfl) (fun h => ?_) (fun h => ?_)
          ·
            refine W.yes 0 100000 (by kernel_rfl) ?_
            refine W.yes 0 100000 (by kernel_rfl) ?_
            refine W.yes 0 100000 (by kernel_rfl) ?_
            refine W.cond 0 100000 h (by kernel_rfl) (fun h => ?_) (fun h => ?_)
            ·
              refine W.yes 0 100000 (by kernel_rfl) ?_
              refine W.yes 0 100000 (by kernel_rfl) ?_
              refine W.yes 0 100000 (by kernel_rfl) ?_
              refine W.yes 0 100000 (by kernel_rfl) ?_
              refine W.yes 0 100000 (by kernel_rfl) ?_
              exact W.retT 0 100000 h (by kernel_rfl)
            ·
              refine W.no 0 100000 (by kernel_rfl) ?_
              refine W.no 0 100000 (by kernel_rfl) ?_
              refine W.bind h fun a_304 ha_304 h => ?_
              refine W.call 0 100000 (by kernel_rfl) (cellarerref02_Name_con ha_304) (by kernel_rfl) ?_
              refine W.yes 0 100000 (by kernel_rfl) ?_
              refine W.no 0 100000 (by kernel_rfl) ?_
              refine W.yes 0 100000 (by kernel_rfl) ?_
              exact W.retT 0 100000 h (by kernel_rfl)
          ·
            refine W.no 0 100000 (by kernel_rfl) ?_
            refine W.no 0 100000 (by kernel_rfl) ?_
            refine W.no 0 100000 (by kernel_rfl) ?_
            refine W.no 0 100000 (by kernel_rfl) ?_
            refine W.no 0 100000 (by kernel_rfl) ?_
            exact W.retT 0 100000 h (by kernel_rfl)
        ·
          refine W.no 0 100000 (by kernel_rfl) ?_
          refine W.no 0 100000 (by kernel_rfl) ?_
          refine W.no 0 100000 (by kernel_rfl) ?_
          refine W.no 0 100000 (by kernel_rfl) ?_
          refine W.no 0 100000 (by kernel_rfl) ?_
          refine W.no 0 100000 (by kernel_rfl) ?_
          refine W.no 0 100000 (by kernel_rfl) ?_
          refine W.no 0 100000 (by kernel_rfl) ?_
          refine W.no 0 100000 (by kernel_rfl) ?_
          exact W.retT 0 100000 h (by kernel_rfl)
      ·
        refine W.no 0 100000 (by kernel_rfl) ?_
        refine W.no 0 100000 (by kernel_rfl) ?_
        refine W.no 0 100000 (by kernel_rfl) ?_
        refine W.no 0 100000 (by kernel_rfl) ?_
        refine W.no 0 100000 (by kernel_rfl) ?_
        refine W.no 0 100000 (by kernel_rfl) ?_
        refine W.no 0 100000 (by kernel_rfl) ?_
        refine W.no 0 100000 (by kernel_rfl) ?_
        refine W.no 0 100000 (by kernel_rfl) ?_
        refine W.no 0 100000 (by kernel_rfl) ?_
        refine W.no 0 100000 (by kernel_rfl) ?_
        refine W.no 0 100000 (by kernel_rfl) ?_
        refine W.no 0 100000 (by kernel_rfl) ?_
        exact W.retT 0 100000 h (by kernel_rfl)
    ·
      refine W.no 0 100000 (by kernel_rfl) ?_
      refine W.no 0 100000 (by kernel_rfl) ?_
      refine W.no 0 100000 (by kernel_rfl) ?_
      refine W.no 0 100000 (by kernel_rfl) ?_
      refine W.no 0 100000 (by kernel_rfl) ?_
      refine W.no 0 100000 (by kernel_rfl) ?_
      refine W.no 0 100000 (by kernel_rfl) ?_
      refine W.no 0 100000 (by kernel_rfl) ?_
      refine W.no 0 100000 (by kernel_rfl) ?_
      refine W.no 0 100000 (by kernel_rfl) ?_
      refine W.no 0 100000 (by kernel_rfl) ?_
      refine W.no 0 100000 (by kernel_rfl) ?_
      refine W.no 0 100000 (by kernel_rfl) ?_
      refine W.no 0 100000 (by kernel_rfl) ?_
      refine W.no 0 100000 (by kernel_rfl) ?_
      refine W.no 0 100000 (by kernel_rfl) ?_
      refine W.no 0 100000 (by kernel_rfl) ?_
      refine W.no 0 100000 (by kernel_rfl) ?_
      refine W.no 0 100000 (by kernel_rfl) ?_
      exact W.retT 0 100000 h (by kernel_rfl)
  ·
    refine W.no 0 100000 (by kernel_rfl) ?_
    refine W.no 0 100000 (by kernel_rfl) ?_
    refine W.no 0 100000 (by kernel_rfl) ?_
    refine W.no 0 100000 (by kernel_rfl) ?_
    refine W.no 0 100000 (by kernel_rfl) ?_
    refine W.no 0 100000 (by kernel_rfl) ?_
    refine W.no 0 100000 (by kernel_rfl) ?_
    refine W.no 0 100000 (by kernel_rfl) ?_
    refine W.no 0 100000 (by kernel_rfl) ?_
    refine W.no 0 100000 (by kernel_rfl) ?_
    refine W.no 0 100000 (by kernel_rfl) ?_
    refine W.no 0 100000 (by kernel_rfl) ?_
    refine W.no 0 100000 (by kernel_rfl) ?_
    refine W.no 0 100000 (by kernel_rfl) ?_
    refine W.no 0 100000 (by kernel_rfl) ?_
    refine W.no 0 100000 (by kernel_rfl) ?_
    refine W.no 0 100000 (by kernel_rfl) ?_
    refine W.no 0 100000 (by kernel_rfl) ?_
    refine W.no 0 100000 (by kernel_rfl) ?_
    refine W.no 0 100000 (by kernel_rfl) ?_
    refine W.no 0 100000 (by kernel_rfl) ?_
    refine W.no 0 100000 (by kernel_rfl) ?_
    refine W.no 0 100000 (by kernel_rfl) ?_
    exact W.retT 0 100000 h (by kernel_rfl)

theorem divs_Find_1_con {x_317 : List UInt8} {x_318 : List UInt8} {x_319 : List UInt8} {o0_320 : List UInt8} {r : Bool × List UInt8} (h : divs_Find_1 x_317 x_318 x_319 o0_320 = some r) : Con Go.Proofs.Tryd.prog 39 [AV.agg [AV.str x_317, AV.str x_318, AV.str x_319], AV.ptr (0 : Nat) (0 : Nat)] [AO.box [AV.str o0_320]] (divs_Find_1_res r) (divs_Find_1_out r) := by
  refine W.con (by kernel_rfl) ?_
  unfold divs_Find_1 at h
  exact W.retT 0 100000 h (by kernel_rfl)

theorem api_Divert__con {s_311 : List (List UInt8 × List UInt8 × List UInt8)} {o0_312 : List UInt8} {r : Int × List UInt8} (h : api_Divert_ s_311 o0_312 = some r) : Con Go.Proofs.Tryd.prog 34 [AV.list (Ty.prod Ty.str (Ty.prod Ty.str Ty.str)) s_311 Bool.false, AV.func (Go.Fn.func (39 : Nat)) [] [AV.ptr (0 : Nat) (0 : Nat)]] [AO.box [AV.str o0_312]] (api_Divert__res r) (api_Divert__out r) := by
  refine W.con (by kernel_rfl) ?_
  unfold api_Divert_ at h
  refine W.at 0 100000 [] [0, 1, 7, 8] (c' := (fun (s_335 : Int × List UInt8) => (Cfg.mk Mode.run (headTodo Go.Proofs.Tryd.prog 34 0) (St.mk [AV.list (Ty.prod Ty.str (Ty.prod Ty.str Ty.str)) s_311 Bool.false, AV.func (Go.Fn.func (39 : Nat)) [] [AV.ptr (0 : Nat) (0 : Nat)], jj, jj, jj, jj, jj, AV.int IntKind.i64 (↑(List.length s_311) : Int), AV.int IntKind.i64 (Prod.fst s_335), jj, jj, jj, jj, jj, jj, jj, jj, jj, jj] [AO.box [AV.str (Prod.snd s_335)]] (1 : Nat)))) ((0 : Int), o0_312)) (by kernel_rfl) ?_
  refine W.loop (fun (s_335 : Int × List UInt8) => (Cfg.mk Mode.run (headTodo Go.Proofs.Tryd.prog 34 0) (St.mk [AV.list (Ty.prod Ty.str (Ty.prod Ty.str Ty.str)) s_311 Bool.false, AV.func (Go.Fn.func (39 : Nat)) [] [AV.ptr (0 : Nat) (0 : Nat)], jj, jj, jj, jj, jj, AV.int IntKind.i64 (↑(List.length s_311) : Int), AV.int IntKind.i64 (Prod.fst s_335), jj, jj, jj, jj, jj, jj, jj, jj, jj, jj] [AO.box [AV.str (Prod.snd s_335)]] (1 : Nat)))) (fun t => (Sum.elim (fun t_327 => r = (Prod.fst t_327, Prod.snd t_327)) (fun t_329 => Walk Go.Proofs.Tryd.prog 34 (Cfg.mk Mode.run ((headTodo Go.Proofs.Tryd.prog 34 0).drop 3) (St.mk [jj, jj, jj, jj, jj, jj, jj, jj, jj, jj, jj, jj, jj, jj, jj, jj, jj, jj, jj] [AO.box [AV.str t_329]] (1 : Nat))) (api_Divert__res r) (api_Divert__out r))) t) h (fun t h => ?_) (fun s_335 x331 h331 K331 => ?_)
  ·
    rcases t with t_327 | t_329
    · replace h := W.inl (h)
      refine W.elimL (?_)
      exact (Option.some.inj h).symm
    · replace h := W.inr (h)
      refine W.elimR (?_)
      exact W.retT 0 100000 h (by kernel_rfl)
  · unfold api_Divert__b0 at h331
    refine W.cond 2 100000 h331 (by kernel_rfl) (fun h331 => ?_) (fun h331 => ?_)
    ·
      refine W.needT 2 100000 h331 (by kernel_rfl) (fun h331 => ?_)
      refine W.bind h331 fun a_324 ha_324 h331 => ?_
      refine W.call 2 100000 (by kernel_rfl) (divs_Find_1_con ha_324) (by kernel_rfl) ?_
      refine W.cond 2 100000 h331 (by kernel_rfl) (fun h331 => ?_) (fun h331 => ?_)
      ·
        cases h331; exact W.retK 2 100000 K331 (by kernel_rfl)
      ·
        cases h331; exact W.at 2 100000 [] [0, 1, 7, 8] (by kernel_rfl) K331
    ·
      cases h331; exact W.at 2 100000 [] [] (by kernel_rfl) K331

theorem divs_Find_con {l_309 : List (List UInt8 × List UInt8 × List UInt8)} {p_310 : List UInt8} {r : Int} (h : divs_Find l_309 p_310 = some r) : Con Go.Proofs.Tryd.prog 25 [AV.list (Ty.prod Ty.str (Ty.prod Ty.str Ty.str)) l_309 Bool.false, AV.str p_310] [] (divs_Find_res r) (divs_Find_out r) := by
  refine W.con (by kernel_rfl) ?_
  unfold divs_Find at h
  refine W.bind h fun a_336 ha_336 h => ?_
  refine W.call 0 100000 (by kernel_rfl) (api_Divert__con ha_336) (by kernel_rfl) ?_
  exact W.retT 0 100000 h (by kernel_rfl)

theorem cellarerref09_Find_con {l_341 : List (List UInt8 × List UInt8 × List UInt8)} {p_342 : List UInt8} {r : Int} (h : cellarerref09_Find l_341 p_342 = some r) : Con Go.Proofs.Tryd.prog 26 [AV.list (Ty.prod Ty.str (Ty.prod Ty.str Ty.str)) l_341 Bool.false, AV.str p_342] [] (cellarerref09_Find_res r) (cellarerref09_Find_out r) := by
  refine W.con (by kernel_rfl) ?_
  unfold cellarerref09_Find at h
  refine W.at 0 100000 [] [0, 1, 5] (c' := (fun (s_353 : Int) => (Cfg.mk Mode.run (headTodo Go.Proofs.Tryd.prog 26 0) (St.mk [AV.list (Ty.prod Ty.str (Ty.prod Ty.str Ty.str)) l_341 Bool.false, AV.str p_342, jj, jj, jj, AV.int IntKind.i64 s_353, jj, jj, jj, jj, jj, jj, jj, jj, jj, jj, jj, jj, jj, jj] [] (0 : Nat)))) ((0 : Int))) (by kernel_rfl) ?_
  refine W.loop (fun (s_353 : Int) => (Cfg.mk Mode.run (headTodo Go.Proofs.Tryd.prog 26 0) (St.mk [AV.list (Ty.prod Ty.str (Ty.prod Ty.str Ty.str)) l_341 Bool.false, AV.str p_342, jj, jj, jj, AV.int IntKind.i64 s_353, jj, jj, jj, jj, jj, jj, jj, jj, jj, jj, jj, jj, jj, jj] [] (0 : Nat)))) (fun t => (Sum.elim (fun t_347 => r = (t_347)) (fun t_348 => Walk Go.Proofs.Tryd.prog 26 (Cfg.mk Mode.run ((headTodo Go.Proofs.Tryd.prog 26 0).drop 3) (St.mk [jj, jj, jj, jj, jj, jj, jj, jj, jj, jj, jj, jj, jj, jj, jj, jj, jj, jj, jj, jj] [] (0 : Nat))) (cellarerref09_Find_res r) (cellarerref09_Find_out r))) t) h (fun t h => ?_) (fun s_353 x350 h350 K350 => ?_)
  ·
    rcases t with t_347 | t_348
    · replace h := W.inl (h)
      refine W.elimL (?_)
      exact (Option.some.inj h).symm
    · replace h := W.inr (h)
      refine W.elimR (?_)
      exact W.retT 0 100000 h (by kernel_rfl)
  · unfold cellarerref09_Find_b0 at h350
    refine W.cond 2 100000 h350 (by kernel_rfl) (fun h350 => ?_) (fun h350 => ?_)
    ·
      refine W.needT 2 100000 h350 (by kernel_rfl) (fun h350 => ?_)
      refine W.cond 2 100000 h350 (by kernel_rfl) (fun h350 => ?_) (fun h350 => ?_)
      ·
        cases h350; exact W.retK 2 100000 K350 (by kernel_rfl)
      ·
        cases h350; exact W.at 2 100000 [] [0, 1, 5] (by kernel_rfl) K350
    ·
      cases h350; exact W.at 2 100000 [] [] (by kernel_rfl) K350

theorem divs_Check_1_con {y_379 : List UInt8} {y_380 : List UInt8} {y_381 : List UInt8} {o0_382 : List UInt8} {o0_383 : List UInt8} {o0_384 : List UInt8} {r : Bool × List UInt8 × List UInt8 × List UInt8} (h : divs_Check_1 y_379 y_380 y_381 o0_382 o0_383 o0_384 = some r) : Con Go.Proofs.Tryd.prog 30 [AV.agg [AV.str y_379, AV.str y_380, AV.str y_381], AV.ptr (0 : Nat) (0 : Nat)] [AO.box [AV.str o0_382, AV.str o0_383, AV.str o0_384]] (divs_Check_1_res r) (divs_Check_1_out r) := by
  refine W.con (by kernel_rfl) ?_
  unfold divs_Check_1 at h
  exact W.retT 0 100000 h (by kernel_rfl)

theorem api_Divert__v1_con {s_369 : List (List UInt8 × List UInt8 × List UInt8)} {o0_370 : List UInt8} {o0_371 : List UInt8} {o0_372 : List UInt8} {r : Int × List UInt8 × List UInt8 × List UInt8} (h : api_Divert__v1 s_369 o0_370 o0_371 o0_372 = some r) : Con Go.Proofs.Tryd.prog 34 [AV.list (Ty.prod Ty.str (Ty.prod Ty.str Ty.str)) s_369 Bool.false, AV.func (Go.Fn.func (30 : Nat)) [] [AV.ptr (0 : Nat) (0 : Nat)]] [AO.box [AV.str o0_370, AV.str o0_371, AV.str o0_372]] (api_Divert__v1_res r) (api_Divert__v1_out r) := by
  refine W.con (by kernel_rfl) ?_
  unfold api_Divert__v1 at h
  refine W.at 0 100000 [] [0, 1, 7, 8] (c' := (fun (s_407 : Int × List UInt8 × List UInt8 × List UInt8) => (Cfg.mk Mode.run (headTodo Go.Proofs.Tryd.prog 34 0) (St.mk [AV.list (Ty.prod Ty.str (Ty.prod Ty.str Ty.str)) s_369 Bool.false, AV.func (Go.Fn.func (30 : Nat)) [] [AV.ptr (0 : Nat) (0 : Nat)], jj, jj, jj, jj, jj, AV.int IntKind.i64 (↑(List.length s_369) : Int), AV.int IntKind.i64 (Prod.fst s_407), jj, jj, jj, jj, jj, jj, jj, jj, jj, jj] [AO.box [AV.str (Prod.fst (Prod.snd s_407)), AV.str (Prod.fst (Prod.snd (Prod.snd s_407))), AV.str (Prod.snd (Prod.snd (Prod.snd s_407)))]] (1 : Nat)))) ((0 : Int), o0_370, o0_371, o0_372)) (by kernel_rfl) ?_
  refine W.loop (fun (s_407 : Int × List UInt8 × List UInt8 × List UInt8) => (Cfg.mk Mode.run (headTodo Go.Proofs.Tryd.prog 34 0) (St.mk [AV.list (Ty.prod Ty.str (Ty.prod Ty.str Ty.str)) s_369 Bool.false, AV.func (Go.Fn.func (30 : Nat)) [] [AV.ptr (0 : Nat) (0 : Nat)], jj, jj, jj, jj, jj, AV.int IntKind.i64 (↑(List.length s_369) : Int), AV.int IntKind.i64 (Prod.fst s_407), jj, jj, jj, jj, jj, jj, jj, jj, jj, jj] [AO.box [AV.str (Prod.fst (Prod.snd s_407)), AV.str (Prod.fst (Prod.snd (Prod.snd s_407))), AV.str (Prod.snd (Prod.snd (Prod.snd s_407)))]] (1 : Nat)))) (fun t => (Sum.elim (fun t_395 => r = (Prod.fst t_395, Prod.fst (Prod.snd t_395), Prod.fst (Prod.snd (Prod.snd t_395)), Prod.snd (Prod.snd (Prod.snd t_395)))) (fun t_399 => Walk Go.Proofs.Tryd.prog 34 (Cfg.mk Mode.run ((headTodo Go.Proofs.Tryd.prog 34 0).drop 3) (St.mk [jj, jj, jj, jj, jj, jj, jj, jj, jj, jj, jj, jj, jj, jj, jj, jj, jj, jj, jj] [AO.box [AV.str (Prod.fst t_399), AV.str (Prod.fst (Prod.snd t_399)), AV.str (Prod.snd (Prod.snd t_399))]] (1 : Nat))) (api_Divert__v1_res r) (api_Divert__v1_out r))) t) h (fun t h => ?_) (fun s_407 x401 h401 K401 => ?_)
  ·
    rcases t with t_395 | t_399
    · replace h := W.inl (h)
      refine W.elimL (?_)
      exact (Option.some.inj h).symm
    · replace h := W.inr (h)
      refine W.elimR (?_)
      exact W.retT 0 100000 h (by kernel_rfl)
  · unfold api_Divert__v1_b0 at h401
    refine W.cond 2 100000 h401 (by kernel_rfl) (fun h401 => ?_) (fun h401 => ?_)
    ·
      refine W.needT 2 100000 h401 (by kernel_rfl) (fun h401 => ?_)
      refine W.bind h401 fun a_390 ha_390 h401 => ?_
      refine W.call 2 100000 (by kernel_rfl) (divs_Check_1_con ha_390) (by kernel_rfl) ?_
      refine W.cond 2 100000 h401 (by kernel_rfl) (fun h401 => ?_) (fun h401 => ?_)
      ·
        cases h401; exact W.retK 2 100000 K401 (by kernel_rfl)
      ·
        cases h401; exact W.at 2 100000 [] [0, 1, 7, 8] (by kernel_rfl) K401
    ·
      cases h401; exact W.at 2 100000 [] [] (by kernel_rfl) K401

theorem api_Divert__29_con {s_365 : List (List UInt8 × List UInt8 × List UInt8)} {o0_366 : List UInt8} {o0_367 : List UInt8} {o0_368 : List UInt8} {r : Bool × List UInt8 × List UInt8 × List UInt8} (h : api_Divert__29 s_365 o0_366 o0_367 o0_368 = some r) : Con Go.Proofs.Tryd.prog 29 [AV.list (Ty.prod Ty.str (Ty.prod Ty.str Ty.str)) s_365 Bool.false, AV.func (Go.Fn.func (30 : Nat)) [] [AV.ptr (0 : Nat) (0 : Nat)]] [AO.box [AV.str o0_366, AV.str o0_367, AV.str o0_368]] (api_Divert__29_res r) (api_Divert__29_out r) := by
  refine W.con (by kernel_rfl) ?_
  unfold api_Divert__29 at h
  refine W.bind h fun a_408 ha_408 h => ?_
  refine W.call 0 100000 (by kernel_rfl) (api_Divert__v1_con ha_408) (by kernel_rfl) ?_
  exact W.retT 0 100000 h (by kernel_rfl)

theorem divs_Check_con {l_355 : List (List UInt8 × List UInt8 × List UInt8)} {r : Int} (h : divs_Check l_355 = some r) : Con Go.Proofs.Tryd.prog 12 [AV.list (Ty.prod Ty.str (Ty.prod Ty.str Ty.str)) l_355 Bool.false] [] (divs_Check_res r) (divs_Check_out r) := by
  refine W.con (by kernel_rfl) ?_
  unfold divs_Check at h
  refine W.cond 0 100000 h (by kernel_rfl) (fun h => ?_) (fun h => ?_)
  ·
    exact W.retT 0 100000 h (by kernel_rfl)
  ·
    refine W.at 0 100000 [] [0, 8, 9, 10] (c' := (fun (s_422 : Int) => (Cfg.mk Mode.run (headTodo Go.Proofs.Tryd.prog 12 0) (St.mk [AV.list (Ty.prod Ty.str (Ty.prod Ty.str Ty.str)) l_355 Bool.false, jj, jj, jj, jj, jj, jj, jj, AV.list (Ty.prod Ty.str (Ty.prod Ty.str Ty.str)) l_355 Bool.false, AV.int IntKind.i64 (↑(List.length l_355) : Int), AV.int IntKind.i64 s_422, jj, jj, jj, jj, jj, jj, jj, jj, jj, jj, jj, jj, jj, jj, jj, jj, jj, jj, jj, jj, jj, jj, jj, jj, jj, jj, jj, jj, jj, jj, jj, jj, jj, jj, jj] [] (0 : Nat)))) ((0 : Int))) (by kernel_rfl) ?_
    refine W.loop (fun (s_422 : Int) => (Cfg.mk Mode.run (headTodo Go.Proofs.Tryd.prog 12 0) (St.mk [AV.list (Ty.prod Ty.str (Ty.prod Ty.str Ty.str)) l_355 Bool.false, jj, jj, jj, jj, jj, jj, jj, AV.list (Ty.prod Ty.str (Ty.prod Ty.str Ty.str)) l_355 Bool.false, AV.int IntKind.i64 (↑(List.length l_355) : Int), AV.int IntKind.i64 s_422, jj, jj, jj, jj, jj, jj, jj, jj, jj, jj, jj, jj, jj, jj, jj, jj, jj, jj, jj, jj, jj, jj, jj, jj, jj, jj, jj, jj, jj, jj, jj, jj, jj, jj, jj] [] (0 : Nat)))) (fun t => (Sum.elim (fun t_416 => r = ((1 : Int))) (fun t_417 => Walk Go.Proofs.Tryd.prog 12 (Cfg.mk Mode.run ((headTodo Go.Proofs.Tryd.prog 12 0).drop 3) (St.mk [jj, jj, jj, jj, jj, jj, jj, jj, jj, jj, jj, jj, jj, jj, jj, jj, jj, jj, jj, jj, jj, jj, jj, jj, jj, jj, jj, jj, jj, jj, jj, jj, jj, jj, jj, jj, jj, jj, jj, jj, jj, jj, jj, jj, jj, jj] [] (0 : Nat))) (divs_Check_res r) (divs_Check_out r))) t) h (fun t h => ?_) (fun s_422 x419 h419 K419 => ?_)
    ·
      rcases t with t_416 | t_417
      · replace h := W.inl (h)
        refine W.elimL (?_)
        exact (Option.some.inj h).symm
      · replace h := W.inr (h)
        refine W.elimR (?_)
        exact W.retT 0 100000 h (by kernel_rfl)
    · unfold divs_Check_b0 at h419
      refine W.cond 2 100000 h419 (by kernel_rfl) (fun h419 => ?_) (fun h419 => ?_)
      ·
        refine W.needT 2 100000 h419 (by kernel_rfl) (fun h419 => ?_)
        refine W.join (fun t => (Sum.elim (fun t_363 => r = ((1 : Int))) (fun t_364 => Walk Go.Proofs.Tryd.prog 12 (Cfg.mk Mode.run (seqTodo Go.Proofs.Tryd.prog 12 10) (St.mk [AV.list (Ty.prod Ty.str (Ty.prod Ty.str Ty.str)) l_355 Bool.false, jj, jj, AV.int IntKind.i64 s_422, AV.ptr (0 : Nat) (0 : Nat), jj, jj, jj, AV.list (Ty.prod Ty.str (Ty.prod Ty.str Ty.str)) l_355 Bool.false, AV.int IntKind.i64 (↑(List.length l_355) : Int), AV.int IntKind.i64 s_422, jj, jj, jj, jj, jj, jj, jj, jj, jj, jj, jj, jj, jj, jj, jj, jj, jj, jj, jj, jj, jj, jj, jj, jj, jj, jj, jj, jj, jj, jj, jj, jj, jj, jj, jj] [AO.box [AV.str (Prod.fst (List.getD l_355 (Int.toNat s_422) ([], [], []))), AV.str (Prod.fst (Prod.snd (List.getD l_355 (Int.toNat s_422) ([], [], [])))), AV.str (Prod.snd (Prod.snd (List.getD l_355 (Int.toNat s_422) ([], [], []))))]] (0 : Nat))) (divs_Check_res r) (divs_Check_out r))) t) h419 (fun t h419 => ?_) (fun t416 h416 K416 => ?_)
        ·
          rcases t with t_363 | t_364
          · replace h419 := W.inl (h419)
            refine W.elimL (?_)
            cases h419; exact K419
          · replace h419 := W.inr (h419)
            refine W.elimR (?_)
            refine W.needT 2 100000 h419 (by kernel_rfl) (fun h419 => ?_)
            refine W.bind h419 fun a_414 ha_414 h419 => ?_
            refine W.call 2 100000 (by kernel_rfl) (api_Divert__29_con ha_414) (by kernel_rfl) ?_
            refine W.cond 2 100000 h419 (by kernel_rfl) (fun h419 => ?_) (fun h419 => ?_)
            ·
              cases h419; exact W.retK 2 100000 K419 (by kernel_rfl)
            ·
              cases h419; exact W.at 2 100000 [] [0, 8, 9, 10] (by kernel_rfl) K419
        · refine W.next 2 6 (by kernel_rfl) ?_
          refine W.bind h416 fun a_360 ha_360 h416 => ?_
          refine W.call 6 100000 (by kernel_rfl) (divs_Right_con ha_360) (by kernel_rfl) ?_
          refine W.cond 6 100000 h416 (by kernel_rfl) (fun h416 => ?_) (fun h416 => ?_)
          ·
            refine W.yes 6 100000 (by kernel_rfl) ?_
            refine W.yes 6 100000 (by kernel_rfl) ?_
            refine W.yes 6 100000 (by kernel_rfl) ?_
            refine W.yes 6 100000 (by kernel_rfl) ?_
            refine W.yes 6 100000 (by kernel_rfl) ?_
            refine W.yes 6 100000 (by kernel_rfl) ?_
            refine W.yes 6 100000 (by kernel_rfl) ?_
            refine W.yes 6 100000 (by kernel_rfl) ?_
            refine W.yes 6 100000 (by kernel_rfl) ?_
            refine W.yes 6 100000 (by kernel_rfl) ?_
            refine W.yes 6 100000 (by kernel_rfl) ?_
            cases h416; exact W.retK 6 100000 K416 (by kernel_rfl)
          ·
            refine W.no 6 100000 (by kernel_rfl) ?_
            refine W.no 6 100000 (by kernel_rfl) ?_
            refine W.cond 6 100000 h416 (by kernel_rfl) (fun h416 => ?_) (fun h416 => ?_)
            ·
              refine W.yes 6 100000 (by kernel_rfl) ?_
              refine W.yes 6 100000 (by kernel_rfl) ?_
              refine W.yes 6 100000 (by kernel_rfl) ?_
              refine W.needT 6 100000 h416 (by kernel_rfl) (fun h416 => ?_)
              refine W.yes 6 100000 (by kernel_rfl) ?_
              refine W.yes 6 100000 (by kernel_rfl) ?_
              refine W.yes 6 100000 (by kernel_rfl) ?_
              refine W.yes 6 100000 (by kernel_rfl) ?_
              refine W.yes 6 100000 (by kernel_rfl) ?_
              refine W.no 6 100000 (by kernel_rfl) ?_
              refine W.yes 6 100000 (by kernel_rfl) ?_
              refine W.no 6 100000 (by kernel_rfl) ?_
              refine W.cond 6 100000 h416 (by kernel_rfl) (fun h416 => ?_) (fun h416 => ?_)
              ·
                refine W.yes 6 100000 (by kernel_rfl) ?_
                refine W.yes 6 100000 (by kernel_rfl) ?_
                refine W.yes 6 100000 (by kernel_rfl) ?_
                refine W.yes 6 100000 (by kernel_rfl) ?_
                refine W.yes 6 100000 (by kernel_rfl) ?_
                refine W.yes 6 100000 (by kernel_rfl) ?_
                cases h416; exact W.retK 6 100000 K416 (by kernel_rfl)
              ·
                refine W.no 6 100000 (by kernel_rfl) ?_
                refine W.no 6 100000 (by kernel_rfl) ?_
                refine W.no 6 100000 (by kernel_rfl) ?_
                refine W.bind h416 fun a_361 ha_361 h416 => ?_
                refine W.call 6 100000 (by kernel_rfl) (divs_Find_con ha_361) (by kernel_rfl) ?_
                refine W.no 6 100000 (by kernel_rfl) ?_
                refine W.no 6 100000 (by kernel_rfl) ?_
                refine W.cond 6 100000 h416 (by kernel_rfl) (fun h416 => ?_) (fun h416 => ?_)
                ·
                  cases h416; exact W.retK 6 100000 K416 (by kernel_rfl)
                ·
                  cases h416; exact W.at 6 100000 [] [0, 3, 4, 8, 9, 10] (by kernel_rfl) K416
            ·
              refine W.no 6 100000 (by kernel_rfl) ?_
              refine W.no 6 100000 (by kernel_rfl) ?_
              refine W.no 6 100000 (by kernel_rfl) ?_
              refine W.no 6 100000 (by kernel_rfl) ?_
              refine W.no 6 100000 (by kernel_rfl) ?_
              refine W.no 6 100000 (by kernel_rfl) ?_
              refine W.no 6 100000 (by kernel_rfl) ?_
              refine W.no 6 100000 (by kernel_rfl) ?_
              refine W.no 6 100000 (by kernel_rfl) ?_
              refine W.no 6 100000 (by kernel_rfl) ?_
              refine W.no 6 100000 (by kernel_rfl) ?_
              refine W.no 6 100000 (by kernel_rfl) ?_
              refine W.no 6 100000 (by kernel_rfl) ?_
              refine W.no 6 100000 (by kernel_rfl) ?_
              refine W.no 6 100000 (by kernel_rfl) ?_
              refine W.bind h416 fun a_362 ha_362 h416 => ?_
              refine W.call 6 100000 (by kernel_rfl) (divs_Find_con ha_362) (by kernel_rfl) ?_
              refine W.no 6 100000 (by kernel_rfl) ?_
              refine W.no 6 100000 (by kernel_rfl) ?_
              refine W.cond 6 100000 h416 (by kernel_rfl) (fun h416 => ?_) (fun h416 => ?_)
              ·
                cases h416; exact W.retK 6 100000 K416 (by kernel_rfl)
              ·
                cases h416; exact W.at 6 100000 [] [0, 3, 4, 8, 9, 10] (by kernel_rfl) K416
      ·
        cases h419; exact W.at 2 100000 [] [] (by kernel_rfl) K419

theorem cellarerref09_Check_con {l_424 : List (List UInt8 × List UInt8 × List UInt8)} {r : Int} (h : cellarerref09_Check l_424 = some r) : Con Go.Proofs.Tryd.prog 13 [AV.list (Ty.prod Ty.str (Ty.prod Ty.str Ty.str)) l_424 Bool.false] [] (cellarerref09_Check_res r) (cellarerref09_Check_out r) := by
  refine W.con (by kernel_rfl) ?_
  unfold cellarerref09_Check at h
  refine W.cond 0 100000 h (by kernel_rfl) (fun h => ?_) (fun h => ?_)
  ·
    exact W.retT 0 100000 h (by kernel_rfl)
  ·
    refine W.at 0 100000 [] [0, 3] (c' := (fun (s_444 : Int) => (Cfg.mk Mode.run (headTodo Go.Proofs.Tryd.prog 13 0) (St.mk [AV.list (Ty.prod Ty.str (Ty.prod Ty.str Ty.str)) l_424 Bool.false, jj, jj, AV.int IntKind.i64 s_444, jj, jj, jj, jj, jj, jj, jj, jj, jj, jj, jj, jj, jj, jj, jj, jj, jj, jj, jj, jj, jj, jj, jj, jj, jj, jj, jj, jj, jj, jj, jj, jj, jj, jj, jj, jj, jj, jj, jj, jj, jj, jj, jj, jj, jj, jj, jj, jj, jj, jj, jj, jj, jj, jj, jj, jj, jj, jj, jj, jj, jj, jj, jj, jj, jj, jj, jj, jj, jj] [] (0 : Nat)))) ((0 : Int))) (by kernel_rfl) ?_
    refine W.loop (fun (s_444 : Int) => (Cfg.mk Mode.run (headTodo Go.Proofs.Tryd.prog 13 0) (St.mk [AV.list (Ty.prod Ty.str (Ty.prod Ty.str Ty.str)) l_424 Bool.false, jj, jj, AV.int IntKind.i64 s_444, jj, jj, jj, jj, jj, jj, jj, jj, jj, jj, jj, jj, jj, jj, jj, jj, jj, jj, jj, jj, jj, jj, jj, jj, jj, jj, jj, jj, jj, jj, jj, jj, jj, jj, jj, jj, jj, jj, jj, jj, jj, jj, jj, jj, jj, jj, jj, jj, jj, jj, jj, jj, jj, jj, jj, jj, jj, jj, jj, jj, jj, jj, jj, jj, jj, jj, jj, jj, jj] [] (0 : Nat)))) (fun t => (Sum.elim (fun t_437 => r = ((1 : Int))) (fun t_438 => Walk Go.Proofs.Tryd.prog 13 (Cfg.mk Mode.run ((headTodo Go.Proofs.Tryd.prog 13 0).drop 3) (St.mk [jj, jj, jj, jj, jj, jj, jj, jj, jj, jj, jj, jj, jj, jj, jj, jj, jj, jj, jj, jj, jj, jj, jj, jj, jj, jj, jj, jj, jj, jj, jj, jj, jj, jj, jj, jj, jj, jj, jj, jj, jj, jj, jj, jj, jj, jj, jj, jj, jj, jj, jj, jj, jj, jj, jj, jj, jj, jj, jj, jj, jj, jj, jj, jj, jj, jj, jj, jj, jj, jj, jj, jj, jj] [] (0 : Nat))) (cellarerref09_Check_res r) (cellarerref09_Check_out r))) t) h (fun t h => ?_) (fun s_444 x440 h440 K440 => ?_)
    ·
      rcases t with t_437 | t_438
      · replace h := W.inl (h)
        refine W.elimL (?_)
        exact (Option.some.inj h).symm
      · replace h := W.inr (h)
        refine W.elimR (?_)
        exact W.retT 0 100000 h (by kernel_rfl)
    · unfold cellarerref09_Check_b1 at h440
      refine W.cond 2 100000 h440 (by kernel_rfl) (fun h440 => ?_) (fun h440 => ?_)
      ·
        refine W.join (fun t => (Sum.elim (fun t_428 => r = ((1 : Int))) (fun t_429 => Walk Go.Proofs.Tryd.prog 13 (Cfg.mk Mode.run (seqTodo Go.Proofs.Tryd.prog 13 9) (St.mk [AV.list (Ty.prod Ty.str (Ty.prod Ty.str Ty.str)) l_424 Bool.false, jj, jj, AV.int IntKind.i64 s_444, jj, jj, jj, jj, jj, jj, jj, jj, jj, jj, jj, jj, jj, jj, jj, jj, jj, jj, jj, jj, jj, jj, jj, jj, jj, jj, jj, jj, jj, jj, jj, jj, jj, jj, jj, jj, jj, jj, jj, jj, jj, jj, jj, jj, jj, jj, jj, jj, jj, jj, jj, jj, jj, jj, jj, jj, jj, jj, jj, jj, jj, jj, jj, jj, jj, jj, jj, jj, jj] [] (0 : Nat))) (cellarerref09_Check_res r) (cellarerref09_Check_out r))) t) h440 (fun t h440 => ?_) (fun t437 h437 K437 => ?_)
        ·
          rcases t with t_428 | t_429
          · replace h440 := W.inl (h440)
            refine W.elimL (?_)
            cases h440; exact K440
          · replace h440 := W.inr (h440)
            refine W.elimR (?_)
            refine W.at 2 100000 [] [0, 3, 4] (c' := (fun (s_445 : Int) => (Cfg.mk Mode.run (headTodo Go.Proofs.Tryd.prog 13 1) (St.mk [AV.list (Ty.prod Ty.str (Ty.prod Ty.str Ty.str)) l_424 Bool.false, jj, jj, AV.int IntKind.i64 s_444, AV.int IntKind.i64 s_445, jj, jj, jj, jj, jj, jj, jj, jj, jj, jj, jj, jj, jj, jj, jj, jj, jj, jj, jj, jj, jj, jj, jj, jj, jj, jj, jj, jj, jj, jj, jj, jj, jj, jj, jj, jj, jj, jj, jj, jj, jj, jj, jj, jj, jj, jj, jj, jj, jj, jj, jj, jj, jj, jj, jj, jj, jj, jj, jj, jj, jj, jj, jj, jj, jj, jj, jj, jj] [] (0 : Nat)))) ((0 : Int))) (by kernel_rfl) ?_
            refine W.loop (fun (s_445 : Int) => (Cfg.mk Mode.run (headTodo Go.Proofs.Tryd.prog 13 1) (St.mk [AV.list (Ty.prod Ty.str (Ty.prod Ty.str Ty.str)) l_424 Bool.false, jj, jj, AV.int IntKind.i64 s_444, AV.int IntKind.i64 s_445, jj, jj, jj, jj, jj, jj, jj, jj, jj, jj, jj, jj, jj, jj, jj, jj, jj, jj, jj, jj, jj, jj, jj, jj, jj, jj, jj, jj, jj, jj, jj, jj, jj, jj, jj, jj, jj, jj, jj, jj, jj, jj, jj, jj, jj, jj, jj, jj, jj, jj, jj, jj, jj, jj, jj, jj, jj, jj, jj, jj, jj, jj, jj, jj, jj, jj, jj, jj] [] (0 : Nat)))) (fun t => (Sum.elim (fun t_433 => r = ((1 : Int))) (fun t_434 => Walk Go.Proofs.Tryd.prog 13 (Cfg.mk Mode.run ((headTodo Go.Proofs.Tryd.prog 13 1).drop 3) (St.mk [AV.list (Ty.prod Ty.str (Ty.prod Ty.str Ty.str)) l_424 Bool.false, jj, jj, AV.int IntKind.i64 s_444, jj, jj, jj, jj, jj, jj, jj, jj, jj, jj, jj, jj, jj, jj, jj, jj, jj, jj, jj, jj, jj, jj, jj, jj, jj, jj, jj, jj, jj, jj, jj, jj, jj, jj, jj, jj, jj, jj, jj, jj, jj, jj, jj, jj, jj, jj, jj, jj, jj, jj, jj, jj, jj, jj, jj, jj, jj, jj, jj, jj, jj, jj, jj, jj, jj, jj, jj, jj, jj] [] (0 : Nat))) (cellarerref09_Check_res r) (cellarerref09_Check_out r))) t) h440 (fun t h440 => ?_) (fun s_445 x436 h436 K436 => ?_)
            ·
              rcases t with t_433 | t_434
              · replace h440 := W.inl (h440)
                refine W.elimL (?_)
                cases h440; exact K440
              · replace h440 := W.inr (h440)
                refine W.elimR (?_)
                cases h440; exact W.at 2 100000 [] [0, 3] (by kernel_rfl) K440
            · unfold cellarerref09_Check_b0 at h436
              refine W.cond 6 100000 h436 (by kernel_rfl) (fun h436 => ?_) (fun h436 => ?_)
              ·
                refine W.needT 6 100000 h436 (by kernel_rfl) (fun h436 => ?_)
                refine W.needT 6 100000 h436 (by kernel_rfl) (fun h436 => ?_)
                refine W.cond 6 100000 h436 (by kernel_rfl) (fun h436 => ?_) (fun h436 => ?_)
                ·
                  refine W.yes 6 100000 (by kernel_rfl) ?_
                  refine W.yes 6 100000 (by kernel_rfl) ?_
                  refine W.yes 6 100000 (by kernel_rfl) ?_
                  refine W.yes 6 100000 (by kernel_rfl) ?_
                  refine W.yes 6 100000 (by kernel_rfl) ?_
                  refine W.yes 6 100000 (by kernel_rfl) ?_
                  cases h436; exact W.retK 6 100000 K436 (by kernel_rfl)
                ·
                  refine W.no 6 100000 (by kernel_rfl) ?_
                  refine W.no 6 100000 (by kernel_rfl) ?_
                  refine W.no 6 100000 (by kernel_rfl) ?_
                  refine W.cond 6 100000 h436 (by kernel_rfl) (fun h436 => ?_) (fun h436 => ?_)
                  ·
                    refine W.yes 6 100000 (by kernel_rfl) ?_
                    refine W.yes 6 100000 (by kernel_rfl) ?_
                    refine W.needT 6 100000 h436 (by kernel_rfl) (fun h436 => ?_)
                    refine W.yes 6 100000 (by kernel_rfl) ?_
                    refine W.yes 6 100000 (by kernel_rfl) ?_
                    refine W.yes 6 100000 (by kernel_rfl) ?_
                    refine W.yes 6 100000 (by kernel_rfl) ?_
                    refine W.yes 6 100000 (by kernel_rfl) ?_
                    refine W.needT 6 100000 h436 (by kernel_rfl) (fun h436 => ?_)
                    refine W.yes 6 100000 (by kernel_rfl) ?_
                    refine W.yes 6 100000 (by kernel_rfl) ?_
                    refine W.yes 6 100000 (by kernel_rfl) ?_
                    refine W.no 6 100000 (by kernel_rfl) ?_
                    refine W.yes 6 100000 (by kernel_rfl) ?_
                    refine W.no 6 100000 (by kernel_rfl) ?_
                    refine W.cond 6 100000 h436 (by kernel_rfl) (fun h436 => ?_) (fun h436 => ?_)
                    ·
                      cases h436; exact W.retK 6 100000 K436 (by kernel_rfl)
                    ·
                      cases h436; exact W.at 6 100000 [] [0, 3, 4] (by kernel_rfl) K436
                  ·
                    refine W.no 6 100000 (by kernel_rfl) ?_
                    refine W.no 6 100000 (by kernel_rfl) ?_
                    refine W.no 6 100000 (by kernel_rfl) ?_
                    refine W.no 6 100000 (by kernel_rfl) ?_
                    refine W.no 6 100000 (by kernel_rfl) ?_
                    refine W.no 6 100000 (by kernel_rfl) ?_
                    refine W.no 6 100000 (by kernel_rfl) ?_
                    refine W.no 6 100000 (by kernel_rfl) ?_
                    refine W.no 6 100000 (by kernel_rfl) ?_
                    refine W.no 6 100000 (by kernel_rfl) ?_
                    refine W.no 6 100000 (by kernel_rfl) ?_
                    refine W.no 6 100000 (by kernel_rfl) ?_
                    refine W.no 6 100000 (by kernel_rfl) ?_
                    refine W.no 6 100000 (by kernel_rfl) ?_
                    cases h436; exact W.at 6 100000 [] [0, 3, 4] (by kernel_rfl) K436
              ·
                cases h436; exact W.at 6 100000 [] [0, 3] (by kernel_rfl) K436
        · refine W.next 2 4 (by kernel_rfl) ?_
          refine W.needT 6 100000 h437 (by kernel_rfl) (fun h437 => ?_)
          refine W.bind h437 fun a_427 ha_427 h437 => ?_
          refine W.call 6 100000 (by kernel_rfl) (cellarerref09_Right_con ha_427) (by kernel_rfl) ?_
          refine W.cond 6 100000 h437 (by kernel_rfl) (fun h437 => ?_) (fun h437 => ?_)
          ·
            refine W.yes 6 100000 (by kernel_rfl) ?_
            refine W.yes 6 100000 (by kernel_rfl) ?_
            refine W.yes 6 100000 (by kernel_rfl) ?_
            refine W.yes 6 100000 (by kernel_rfl) ?_
            refine W.yes 6 100000 (by kernel_rfl) ?_
            cases h437; exact W.retK 6 100000 K437 (by kernel_rfl)
          ·
            refine W.no 6 100000 (by kernel_rfl) ?_
            refine W.no 6 100000 (by kernel_rfl) ?_
            refine W.cond 6 100000 h437 (by kernel_rfl) (fun h437 => ?_) (fun h437 => ?_)
            ·
              refine W.yes 6 100000 (by kernel_rfl) ?_
              refine W.yes 6 100000 (by kernel_rfl) ?_
              refine W.yes 6 100000 (by kernel_rfl) ?_
              refine W.needT 6 100000 h437 (by kernel_rfl) (fun h437 => ?_)
              refine W.yes 6 100000 (by kernel_rfl) ?_
              refine W.yes 6 100000 (by kernel_rfl) ?_
              refine W.yes 6 100000 (by kernel_rfl) ?_
              refine W.yes 6 100000 (by kernel_rfl) ?_
              refine W.yes 6 100000 (by kernel_rfl) ?_
              refine W.needT 6 100000 h437 (by kernel_rfl) (fun h437 => ?_)
              refine W.yes 6 100000 (by kernel_rfl) ?_
              refine W.yes 6 100000 (by kernel_rfl) ?_
              refine W.yes 6 100000 (by kernel_rfl) ?_
              refine W.no 6 100000 (by kernel_rfl) ?_
              refine W.yes 6 100000 (by kernel_rfl) ?_
              refine W.no 6 100000 (by kernel_rfl) ?_
              refine W.cond 6 100000 h437 (by kernel_rfl) (fun h437 => ?_) (fun h437 => ?_)
              ·
                cases h437; exact W.retK 6 100000 K437 (by kernel_rfl)
              ·
                cases h437; exact W.at 6 100000 [] [0, 3] (by kernel_rfl) K437
            ·
              refine W.no 6 100000 (by kernel_rfl) ?_
              refine W.no 6 100000 (by kernel_rfl) ?_
              refine W.no 6 100000 (by kernel_rfl) ?_
              refine W.no 6 100000 (by kernel_rfl) ?_
              refine W.no 6 100000 (by kernel_rfl) ?_
              refine W.no 6 100000 (by kernel_rfl) ?_
              refine W.no 6 100000 (by kernel_rfl) ?_
              refine W.no 6 100000 (by kernel_rfl) ?_
              refine W.no 6 100000 (by kernel_rfl) ?_
              refine W.no 6 100000 (by kernel_rfl) ?_
              refine W.no 6 100000 (by kernel_rfl) ?_
              refine W.no 6 100000 (by kernel_rfl) ?_
              refine W.no 6 100000 (by kernel_rfl) ?_
              refine W.no 6 100000 (by kernel_rfl) ?_
              refine W.no 6 100000 (by kernel_rfl) ?_
              cases h437; exact W.at 6 100000 [] [0, 3] (by kernel_rfl) K437
      ·
        cases h440; exact W.at 2 100000 [] [] (by kernel_rfl) K440

theorem cellarerref09_Same_con {a_448 : List (List UInt8 × List UInt8 × List UInt8)} {b_449 : List (List UInt8 × List UInt8 × List UInt8)} {r : Bool} (h : cellarerref09_Same a_448 b_449 = some r) : Con Go.Proofs.Tryd.prog 15 [AV.list (Ty.prod Ty.str (Ty.prod Ty.str Ty.str)) a_448 Bool.false, AV.list (Ty.prod Ty.str (Ty.prod Ty.str Ty.str)) b_449 Bool.false] [] (cellarerref09_Same_res r) (cellarerref09_Same_out r) := by
  refine W.con (by kernel_rfl) ?_
  unfold cellarerref09_Same at h
  refine W.cond 0 100000 h (by kernel_rfl) (fun h => ?_) (fun h => ?_)
  ·
    exact W.retT 0 100000 h (by kernel_rfl)
  ·
    refine W.at 0 100000 [] [0, 1, 5] (c' := (fun (s_459 : Int) => (Cfg.mk Mode.run (headTodo Go.Proofs.Tryd.prog 15 0) (St.mk [AV.list (Ty.prod Ty.str (Ty.prod Ty.str Ty.str)) a_448 Bool.false, AV.list (Ty.prod Ty.str (Ty.prod Ty.str Ty.str)) b_449 Bool.false, jj, jj, jj, AV.int IntKind.i64 s_459, jj, jj, jj, jj, jj, jj, jj, jj, jj, jj, jj, jj, jj, jj, jj, jj, jj, jj, jj, jj] [] (0 : Nat)))) ((0 : Int))) (by kernel_rfl) ?_
    refine W.loop (fun (s_459 : Int) => (Cfg.mk Mode.run (headTodo Go.Proofs.Tryd.prog 15 0) (St.mk [AV.list (Ty.prod Ty.str (Ty.prod Ty.str Ty.str)) a_448 Bool.false, AV.list (Ty.prod Ty.str (Ty.prod Ty.str Ty.str)) b_449 Bool.false, jj, jj, jj, AV.int IntKind.i64 s_459, jj, jj, jj, jj, jj, jj, jj, jj, jj, jj, jj, jj, jj, jj, jj, jj, jj, jj, jj, jj] [] (0 : Nat)))) (fun t => (Sum.elim (fun t_453 => r = (Bool.false)) (fun t_454 => Walk Go.Proofs.Tryd.prog 15 (Cfg.mk Mode.run ((headTodo Go.Proofs.Tryd.prog 15 0).drop 3) (St.mk [jj, jj, jj, jj, jj, jj, jj, jj, jj, jj, jj, jj, jj, jj, jj, jj, jj, jj, jj, jj, jj, jj, jj, jj, jj, jj] [] (0 : Nat))) (cellarerref09_Same_res r) (cellarerref09_Same_out r))) t) h (fun t h => ?_) (fun s_459 x456 h456 K456 => ?_)
    ·
      rcases t with t_453 | t_454
      · replace h := W.inl (h)
        refine W.elimL (?_)
        exact (Option.some.inj h).symm
      · replace h := W.inr (h)
        refine W.elimR (?_)
        exact W.retT 0 100000 h (by kernel_rfl)
    · unfold cellarerref09_Same_b0 at h456
      refine W.cond 2 100000 h456 (by kernel_rfl) (fun h456 => ?_) (fun h456 => ?_)
      ·
        refine W.needT 2 100000 h456 (by kernel_rfl) (fun h456 => ?_)
        refine W.needT 2 100000 h456 (by kernel_rfl) (fun h456 => ?_)
        refine W.cond 2 100000 h456 (by kernel_rfl) (fun h456 => ?_) (fun h456 => ?_)
        ·
          cases h456; exact W.retK 2 100000 K456 (by kernel_rfl)
        ·
          cases h456; exact W.at 2 100000 [] [0, 1, 5] (by kernel_rfl) K456
      ·
        cases h456; exact W.at 2 100000 [] [] (by kernel_rfl) K456

theorem divs_True_con {l_463 : List (List UInt8 × List UInt8 × List UInt8)} {p_464 : List UInt8} {by_465 : List UInt8} {r : List UInt8} (h : divs_True l_463 p_464 by_465 = some r) : Con Go.Proofs.Tryd.prog 17 [AV.list (Ty.prod Ty.str (Ty.prod Ty.str Ty.str)) l_463 Bool.false, AV.str p_464, AV.str by_465] [] (divs_True_res r) (divs_True_out r) := by
  refine W.con (by kernel_rfl) ?_
  unfold divs_True at h
  refine W.bind h fun a_466 ha_466 h => ?_
  refine W.call 0 100000 (by kernel_rfl) (divs_Find_con ha_466) (by kernel_rfl) ?_
  refine W.cond 0 100000 h (by kernel_rfl) (fun h => ?_) (fun h => ?_)
  ·
    refine W.yes 0 100000 (by kernel_rfl) ?_
    refine W.yes 0 100000 (by kernel_rfl) ?_
    refine W.yes 0 100000 (by kernel_rfl) ?_
    refine W.yes 0 100000 (by kernel_rfl) ?_
    refine W.yes 0 100000 (by kernel_rfl) ?_
    refine W.yes 0 100000 (by kernel_rfl) ?_
    refine W.yes 0 100000 (by kernel_rfl) ?_
    refine W.yes 0 100000 (by kernel_rfl) ?_
    refine W.yes 0 100000 (by kernel_rfl) ?_
    exact W.retT 0 100000 h (by kernel_rfl)
  ·
    refine W.no 0 100000 (by kernel_rfl) ?_
    refine W.no 0 100000 (by kernel_rfl) ?_
    refine W.needT 0 100000 h (by kernel_rfl) (fun h => ?_)
    refine W.no 0 100000 (by kernel_rfl) ?_
    refine W.no 0 100000 (by kernel_rfl) ?_
    refine W.no 0 100000 (by kernel_rfl) ?_
    refine W.no 0 100000 (by kernel_rfl) ?_
    refine W.cond 0 100000 h (by kernel_rfl) (fun h => ?_) (fun h => ?_)
    ·
      refine W.yes 0 100000 (by kernel_rfl) ?_
      refine W.yes 0 100000 (by kernel_rfl) ?_
      refine W.needT 0 100000 h (by kernel_rfl) (fun h => ?_)
      refine W.yes 0 100000 (by kernel_rfl) ?_
      refine W.yes 0 100000 (by kernel_rfl) ?_
      refine W.yes 0 100000 (by kernel_rfl) ?_
      refine W.yes 0 100000 (by kernel_rfl) ?_
      refine W.no 0 100000 (by kernel_rfl) ?_
      refine W.yes 0 100000 (by kernel_rfl) ?_
      refine W.no 0 100000 (by kernel_rfl) ?_
      refine W.cond 0 100000 h (by kernel_rfl) (fun h => ?_) (fun h => ?_)
      ·
        exact W.retT 0 100000 h (by kernel_rfl)
      ·
        refine W.needT 0 100000 h (by kernel_rfl) (fun h => ?_)
        exact W.retT 0 100000 h (by kernel_rfl)
    ·
      refine W.no 0 100000 (by kernel_rfl) ?_
      refine W.no 0 100000 (by kernel_rfl) ?_
      refine W.no 0 100000 (by kernel_rfl) ?_
      refine W.no 0 100000 (by kernel_rfl) ?_
      refine W.no 0 100000 (by kernel_rfl) ?_
      refine W.no 0 100000 (by kernel_rfl) ?_
      refine W.no 0 100000 (by kernel_rfl) ?_
      refine W.no 0 100000 (by kernel_rfl) ?_
      refine W.no 0 100000 (by kernel_rfl) ?_
      refine W.no 0 100000 (by kernel_rfl) ?_
      refine W.needT 0 100000 h (by kernel_rfl) (fun h => ?_)
      exact W.retT 0 100000 h (by kernel_rfl)

theorem cellarerref09_True_con {l_472 : List (List UInt8 × List UInt8 × List UInt8)} {p_473 : List UInt8} {by_474 : List UInt8} {r : List UInt8} (h : cellarerref09_True l_472 p_473 by_474 = some r) : Con Go.Proofs.Tryd.prog 18 [AV.list (Ty.prod Ty.str (Ty.prod Ty.str Ty.str)) l_472 Bool.false, AV.str p_473, AV.str by_474] [] (cellarerref09_True_res r) (cellarerref09_True_out r) := by
  refine W.con (by kernel_rfl) ?_
  unfold cellarerref09_True at h
  refine W.bind h fun a_475 ha_475 h => ?_
  refine W.call 0 100000 (by kernel_rfl) (cellarerref09_Find_con ha_475) (by kernel_rfl) ?_
  refine W.cond 0 100000 h (by kernel_rfl) (fun h => ?_) (fun h => ?_)
  ·
    exact W.retT 0 100000 h (by kernel_rfl)
  ·
    refine W.cond 0 100000 h (by kernel_rfl) (fun h => ?_) (fun h => ?_)
    ·
      refine W.yes 0 100000 (by kernel_rfl) ?_
      refine W.yes 0 100000 (by kernel_rfl) ?_
      refine W.needT 0 100000 h (by kernel_rfl) (fun h => ?_)
      refine W.yes 0 100000 (by kernel_rfl) ?_
      refine W.yes 0 100000 (by kernel_rfl) ?_
      refine W.yes 0 100000 (by kernel_rfl) ?_
      refine W.yes 0 100000 (by kernel_rfl) ?_
      refine W.yes 0 100000 (by kernel_rfl) ?_
      refine W.cond 0 100000 h (by kernel_rfl) (fun h => ?_) (fun h => ?_)
      ·
        exact W.retT 0 100000 h (by kernel_rfl)
      ·
        refine W.needT 0 100000 h (by kernel_rfl) (fun h => ?_)
        exact W.retT 0 100000 h (by kernel_rfl)
    ·
      refine W.no 0 100000 (by kernel_rfl) ?_
      refine W.no 0 100000 (by kernel_rfl) ?_
      refine W.no 0 100000 (by kernel_rfl) ?_
      refine W.no 0 100000 (by kernel_rfl) ?_
      refine W.no 0 100000 (by kernel_rfl) ?_
      refine W.no 0 100000 (by kernel_rfl) ?_
      refine W.no 0 100000 (by kernel_rfl) ?_
      refine W.no 0 100000 (by kernel_rfl) ?_
      refine W.needT 0 100000 h (by kernel_rfl) (fun h => ?_)
      exact W.retT 0 100000 h (by kernel_rfl)

theorem divs_From_con {l_480 : List (List UInt8 × List UInt8 × List UInt8)} {p_481 : List UInt8} {r : List UInt8} (h : divs_From l_480 p_481 = some r) : Con Go.Proofs.Tryd.prog 19 [AV.list (Ty.prod Ty.str (Ty.prod Ty.str Ty.str)) l_480 Bool.false, AV.str p_481] [] (divs_From_res r) (divs_From_out r) := by
  refine W.con (by kernel_rfl) ?_
  unfold divs_From at h
  refine W.at 0 100000 [] [1, 7, 8, 9] (c' := (fun (s_493 : Int) => (Cfg.mk Mode.run (headTodo Go.Proofs.Tryd.prog 19 0) (St.mk [jj, AV.str p_481, jj, jj, jj, jj, jj, AV.list (Ty.prod Ty.str (Ty.prod Ty.str Ty.str)) l_480 Bool.false, AV.int IntKind.i64 (↑(List.length l_480) : Int), AV.int IntKind.i64 s_493, jj, jj, jj, jj, jj, jj, jj, jj, jj, jj, jj] [] (0 : Nat)))) ((0 : Int))) (by kernel_rfl) ?_
  refine W.loop (fun (s_493 : Int) => (Cfg.mk Mode.run (headTodo Go.Proofs.Tryd.prog 19 0) (St.mk [jj, AV.str p_481, jj, jj, jj, jj, jj, AV.list (Ty.prod Ty.str (Ty.prod Ty.str Ty.str)) l_480 Bool.false, AV.int IntKind.i64 (↑(List.length l_480) : Int), AV.int IntKind.i64 s_493, jj, jj, jj, jj, jj, jj, jj, jj, jj, jj, jj] [] (0 : Nat)))) (fun t => (Sum.elim (fun t_487 => r = (t_487)) (fun t_488 => Walk Go.Proofs.Tryd.prog 19 (Cfg.mk Mode.run ((headTodo Go.Proofs.Tryd.prog 19 0).drop 3) (St.mk [jj, AV.str p_481, jj, jj, jj, jj, jj, jj, jj, jj, jj, jj, jj, jj, jj, jj, jj, jj, jj, jj, jj] [] (0 : Nat))) (divs_From_res r) (divs_From_out r))) t) h (fun t h => ?_) (fun s_493 x490 h490 K490 => ?_)
  ·
    rcases t with t_487 | t_488
    · replace h := W.inl (h)
      refine W.elimL (?_)
      exact (Option.some.inj h).symm
    · replace h := W.inr (h)
      refine W.elimR (?_)
      exact W.retT 0 100000 h (by kernel_rfl)
  · unfold divs_From_b0 at h490
    refine W.cond 2 100000 h490 (by kernel_rfl) (fun h490 => ?_) (fun h490 => ?_)
    ·
      refine W.needT 2 100000 h490 (by kernel_rfl) (fun h490 => ?_)
      refine W.cond 2 100000 h490 (by kernel_rfl) (fun h490 => ?_) (fun h490 => ?_)
      ·
        cases h490; exact W.retK 2 100000 K490 (by kernel_rfl)
      ·
        cases h490; exact W.at 2 100000 [] [1, 7, 8, 9] (by kernel_rfl) K490
    ·
      cases h490; exact W.at 2 100000 [] [1] (by kernel_rfl) K490

theorem cellarerref09_From_con {l_496 : List (List UInt8 × List UInt8 × List UInt8)} {p_497 : List UInt8} {r : List UInt8} (h : cellarerref09_From l_496 p_497 = some r) : Con Go.Proofs.Tryd.prog 20 [AV.list (Ty.prod Ty.str (Ty.prod Ty.str Ty.str)) l_496 Bool.false, AV.str p_497] [] (cellarerref09_From_res r) (cellarerref09_From_out r) := by
  refine W.con (by kernel_rfl) ?_
  unfold cellarerref09_From at h
  refine W.at 0 100000 [] [0, 1, 5] (c' := (fun (s_508 : Int) => (Cfg.mk Mode.run (headTodo Go.Proofs.Tryd.prog 20 0) (St.mk [AV.list (Ty.prod Ty.str (Ty.prod Ty.str Ty.str)) l_496 Bool.false, AV.str p_497, jj, jj, jj, AV.int IntKind.i64 s_508, jj, jj, jj, jj, jj, jj, jj, jj, jj, jj, jj, jj, jj, jj, jj, jj, jj, jj, jj] [] (0 : Nat)))) ((0 : Int))) (by kernel_rfl) ?_
  refine W.loop (fun (s_508 : Int) => (Cfg.mk Mode.run (headTodo Go.Proofs.Tryd.prog 20 0) (St.mk [AV.list (Ty.prod Ty.str (Ty.prod Ty.str Ty.str)) l_496 Bool.false, AV.str p_497, jj, jj, jj, AV.int IntKind.i64 s_508, jj, jj, jj, jj, jj, jj, jj, jj, jj, jj, jj, jj, jj, jj, jj, jj, jj, jj, jj] [] (0 : Nat)))) (fun t => (Sum.elim (fun t_502 => r = (t_502)) (fun t_503 => Walk Go.Proofs.Tryd.prog 20 (Cfg.mk Mode.run ((headTodo Go.Proofs.Tryd.prog 20 0).drop 3) (St.mk [jj, AV.str p_497, jj, jj, jj, jj, jj, jj, jj, jj, jj, jj, jj, jj, jj, jj, jj, jj, jj, jj, jj, jj, jj, jj, jj] [] (0 : Nat))) (cellarerref09_From_res r) (cellarerref09_From_out r))) t) h (fun t h => ?_) (fun s_508 x505 h505 K505 => ?_)
  ·
    rcases t with t_502 | t_503
    · replace h := W.inl (h)
      refine W.elimL (?_)
      exact (Option.some.inj h).symm
    · replace h := W.inr (h)
      refine W.elimR (?_)
      exact W.retT 0 100000 h (by kernel_rfl)
  · unfold cellarerref09_From_b0 at h505
    refine W.cond 2 100000 h505 (by kernel_rfl) (fun h505 => ?_) (fun h505 => ?_)
    ·
      refine W.needT 2 100000 h505 (by kernel_rfl) (fun h505 => ?_)
      refine W.cond 2 100000 h505 (by kernel_rfl) (fun h505 => ?_) (fun h505 => ?_)
      ·
        refine W.needT 2 100000 h505 (by kernel_rfl) (fun h505 => ?_)
        cases h505; exact W.retK 2 100000 K505 (by kernel_rfl)
      ·
        cases h505; exact W.at 2 100000 [] [0, 1, 5] (by kernel_rfl) K505
    ·
      cases h505; exact W.at 2 100000 [] [1] (by kernel_rfl) K505

theorem cellarerlaw09_Few_con {l_510 : List (List UInt8 × List UInt8 × List UInt8)} {r : Bool} (h : cellarerlaw09_Few l_510 = some r) : Con Go.Proofs.Tryd.prog 8 [AV.list (Ty.prod Ty.str (Ty.prod Ty.str Ty.str)) l_510 Bool.false] [] (cellarerlaw09_Few_res r) (cellarerlaw09_Few_out r) := by
  refine W.con (by kernel_rfl) ?_
  unfold cellarerlaw09_Few at h
  refine W.cond 0 100000 h (by kernel_rfl) (fun h => ?_) (fun h => ?_)
  ·
    exact W.retT 0 100000 h (by kernel_rfl)
  ·
    refine W.at 0 100000 [] [0, 3] (c' := (fun (s_519 : Int) => (Cfg.mk Mode.run (headTodo Go.Proofs.Tryd.prog 8 0) (St.mk [AV.list (Ty.prod Ty.str (Ty.prod Ty.str Ty.str)) l_510 Bool.false, jj, jj, AV.int IntKind.i64 s_519, jj, jj, jj, jj, jj, jj, jj, jj, jj, jj, jj, jj, jj, jj, jj, jj, jj, jj, jj, jj, jj, jj, jj, jj, jj, jj, jj, jj, jj, jj, jj, jj, jj, jj] [] (0 : Nat)))) ((0 : Int))) (by kernel_rfl) ?_
    refine W.loop (fun (s_519 : Int) => (Cfg.mk Mode.run (headTodo Go.Proofs.Tryd.prog 8 0) (St.mk [AV.list (Ty.prod Ty.str (Ty.prod Ty.str Ty.str)) l_510 Bool.false, jj, jj, AV.int IntKind.i64 s_519, jj, jj, jj, jj, jj, jj, jj, jj, jj, jj, jj, jj, jj, jj, jj, jj, jj, jj, jj, jj, jj, jj, jj, jj, jj, jj, jj, jj, jj, jj, jj, jj, jj, jj] [] (0 : Nat)))) (fun t => (Sum.elim (fun t_513 => r = (Bool.false)) (fun t_514 => Walk Go.Proofs.Tryd.prog 8 (Cfg.mk Mode.run ((headTodo Go.Proofs.Tryd.prog 8 0).drop 3) (St.mk [jj, jj, jj, jj, jj, jj, jj, jj, jj, jj, jj, jj, jj, jj, jj, jj, jj, jj, jj, jj, jj, jj, jj, jj, jj, jj, jj, jj, jj, jj, jj, jj, jj, jj, jj, jj, jj, jj] [] (0 : Nat))) (cellarerlaw09_Few_res r) (cellarerlaw09_Few_out r))) t) h (fun t h => ?_) (fun s_519 x516 h516 K516 => ?_)
    ·
      rcases t with t_513 | t_514
      · replace h := W.inl (h)
        refine W.elimL (?_)
        exact (Option.some.inj h).symm
      · replace h := W.inr (h)
        refine W.elimR (?_)
        exact W.retT 0 100000 h (by kernel_rfl)
    · unfold cellarerlaw09_Few_b0 at h516
      refine W.cond 2 100000 h516 (by kernel_rfl) (fun h516 => ?_) (fun h516 => ?_)
      ·
        refine W.needT 2 100000 h516 (by kernel_rfl) (fun h516 => ?_)
        refine W.cond 2 100000 h516 (by kernel_rfl) (fun h516 => ?_) (fun h516 => ?_)
        ·
          refine W.yes 2 100000 (by kernel_rfl) ?_
          refine W.yes 2 100000 (by kernel_rfl) ?_
          refine W.yes 2 100000 (by kernel_rfl) ?_
          refine W.yes 2 100000 (by kernel_rfl) ?_
          refine W.yes 2 100000 (by kernel_rfl) ?_
          refine W.yes 2 100000 (by kernel_rfl) ?_
          refine W.yes 2 100000 (by kernel_rfl) ?_
          refine W.yes 2 100000 (by kernel_rfl) ?_
          refine W.yes 2 100000 (by kernel_rfl) ?_
          refine W.yes 2 100000 (by kernel_rfl) ?_
          refine W.yes 2 100000 (by kernel_rfl) ?_
          refine W.yes 2 100000 (by kernel_rfl) ?_
          refine W.yes 2 100000 (by kernel_rfl) ?_
          refine W.yes 2 100000 (by kernel_rfl) ?_
          refine W.yes 2 100000 (by kernel_rfl) ?_
          refine W.yes 2 100000 (by kernel_rfl) ?_
          cases h516; exact W.retK 2 100000 K516 (by kernel_rfl)
        ·
          refine W.no 2 100000 (by kernel_rfl) ?_
          refine W.no 2 100000 (by kernel_rfl) ?_
          refine W.needT 2 100000 h516 (by kernel_rfl) (fun h516 => ?_)
          refine W.no 2 100000 (by kernel_rfl) ?_
          refine W.no 2 100000 (by kernel_rfl) ?_
          refine W.no 2 100000 (by kernel_rfl) ?_
          refine W.no 2 100000 (by kernel_rfl) ?_
          refine W.no 2 100000 (by kernel_rfl) ?_
          refine W.cond 2 100000 h516 (by kernel_rfl) (fun h516 => ?_) (fun h516 => ?_)
          ·
            refine W.yes 2 100000 (by kernel_rfl) ?_
            refine W.yes 2 100000 (by kernel_rfl) ?_
            refine W.yes 2 100000 (by kernel_rfl) ?_
            refine W.yes 2 100000 (by kernel_rfl) ?_
            refine W.yes 2 100000 (by kernel_rfl) ?_
            refine W.yes 2 100000 (by kernel_rfl) ?_
            refine W.yes 2 100000 (by kernel_rfl) ?_
            refine W.yes 2 100000 (by kernel_rfl) ?_
            cases h516; exact W.retK 2 100000 K516 (by kernel_rfl)
          ·
            refine W.no 2 100000 (by kernel_rfl) ?_
            refine W.no 2 100000 (by kernel_rfl) ?_
            refine W.needT 2 100000 h516 (by kernel_rfl) (fun h516 => ?_)
            refine W.no 2 100000 (by kernel_rfl) ?_
            refine W.no 2 100000 (by kernel_rfl) ?_
            refine W.no 2 100000 (by kernel_rfl) ?_
            refine W.no 2 100000 (by kernel_rfl) ?_
            refine W.no 2 100000 (by kernel_rfl) ?_
            refine W.cond 2 100000 h516 (by kernel_rfl) (fun h516 => ?_) (fun h516 => ?_)
            ·
              cases h516; exact W.retK 2 100000 K516 (by kernel_rfl)
            ·
              cases h516; exact W.at 2 100000 [] [0, 3] (by kernel_rfl) K516
      ·
        cases h516; exact W.at 2 100000 [] [] (by kernel_rfl) K516

theorem divs_Print_con {l_521 : List (List UInt8 × List UInt8 × List UInt8)} {r : List UInt8 × Int} (h : divs_Print l_521 = some r) : Con Go.Proofs.Tryd.prog 10 [AV.list (Ty.prod Ty.str (Ty.prod Ty.str Ty.str)) l_521 Bool.false] [] (divs_Print_res r) (divs_Print_out r) := by
  refine W.con (by kernel_rfl) ?_
  unfold divs_Print at h
  refine W.bind h fun a_522 ha_522 h => ?_
  refine W.call 0 100000 (by kernel_rfl) (divs_Check_con ha_522) (by kernel_rfl) ?_
  refine W.cond 0 100000 h (by kernel_rfl) (fun h => ?_) (fun h => ?_)
  ·
    exact W.retT 0 100000 h (by kernel_rfl)
  ·
    refine W.at 0 100000 [] [5, 14, 15, 16] (c' := (fun (s_537 : List UInt8 × Int) => (Cfg.mk Mode.run (headTodo Go.Proofs.Tryd.prog 10 0) (St.mk [jj, jj, jj, jj, jj, AV.str (Prod.fst s_537), jj, jj, jj, jj, jj, jj, jj, jj, AV.list (Ty.prod Ty.str (Ty.prod Ty.str Ty.str)) l_521 Bool.false, AV.int IntKind.i64 (↑(List.length l_521) : Int), AV.int IntKind.i64 (Prod.snd s_537), jj, jj, jj, jj, jj, jj, jj, jj, jj, jj, jj, jj, jj, jj, jj, jj, jj, jj, jj, jj, jj] [] (0 : Nat)))) ([], (0 : Int))) (by kernel_rfl) ?_
    refine W.loop (fun (s_537 : List UInt8 × Int) => (Cfg.mk Mode.run (headTodo Go.Proofs.Tryd.prog 10 0) (St.mk [jj, jj, jj, jj, jj, AV.str (Prod.fst s_537), jj, jj, jj, jj, jj, jj, jj, jj, AV.list (Ty.prod Ty.str (Ty.prod Ty.str Ty.str)) l_521 Bool.false, AV.int IntKind.i64 (↑(List.length l_521) : Int), AV.int IntKind.i64 (Prod.snd s_537), jj, jj, jj, jj, jj, jj, jj, jj, jj, jj, jj, jj, jj, jj, jj, jj, jj, jj, jj, jj, jj] [] (0 : Nat)))) (fun t_531 => Walk Go.Proofs.Tryd.prog 10 (Cfg.mk Mode.run ((headTodo Go.Proofs.Tryd.prog 10 0).drop 3) (St.mk [jj, jj, jj, jj, jj, AV.str t_531, jj, jj, jj, jj, jj, jj, jj, jj, jj, jj, jj, jj, jj, jj, jj, jj, jj, jj, jj, jj, jj, jj, jj, jj, jj, jj, jj, jj, jj, jj, jj, jj] [] (0 : Nat))) (divs_Print_res r) (divs_Print_out r)) h (fun t_531 h => ?_) (fun s_537 x533 h533 K533 => ?_)
    ·
      exact W.retT 0 100000 h (by kernel_rfl)
    · unfold divs_Print_b0 at h533
      refine W.cond 2 100000 h533 (by kernel_rfl) (fun h533 => ?_) (fun h533 => ?_)
      ·
        refine W.needT 2 100000 h533 (by kernel_rfl) (fun h533 => ?_)
        refine W.join (fun t_528 => Walk Go.Proofs.Tryd.prog 10 (Cfg.mk Mode.run (seqTodo Go.Proofs.Tryd.prog 10 13) (St.mk [jj, jj, jj, jj, jj, AV.str (Prod.fst s_537), jj, AV.ptr (0 : Nat) (0 : Nat), AV.str t_528, jj, jj, jj, jj, jj, AV.list (Ty.prod Ty.str (Ty.prod Ty.str Ty.str)) l_521 Bool.false, AV.int IntKind.i64 (↑(List.length l_521) : Int), AV.int IntKind.i64 (Prod.snd s_537), jj, jj, jj, jj, jj, jj, jj, jj, jj, jj, jj, jj, jj, jj, jj, jj, jj, jj, jj, jj, jj] [AO.box [AV.str (Prod.fst (List.getD l_521 (Int.toNat (Prod.snd s_537)) ([], [], []))), AV.str (Prod.fst (Prod.snd (List.getD l_521 (Int.toNat (Prod.snd s_537)) ([], [], [])))), AV.str (Prod.snd (Prod.snd (List.getD l_521 (Int.toNat (Prod.snd s_537)) ([], [], []))))]] (0 : Nat))) (divs_Print_res r) (divs_Print_out r)) h533 (fun t_528 h533 => ?_) (fun t530 h530 K530 => ?_)
        ·
          refine W.needT 2 100000 h533 (by kernel_rfl) (fun h533 => ?_)
          refine W.needT 2 100000 h533 (by kernel_rfl) (fun h533 => ?_)
          refine W.needT 2 100000 h533 (by kernel_rfl) (fun h533 => ?_)
          refine W.needT 2 100000 h533 (by kernel_rfl) (fun h533 => ?_)
          refine W.needT 2 100000 h533 (by kernel_rfl) (fun h533 => ?_)
          refine W.needT 2 100000 h533 (by kernel_rfl) (fun h533 => ?_)
          cases h533; exact W.at 2 100000 [] [5, 14, 15, 16] (by kernel_rfl) K533
        · refine W.next 2 11 (by kernel_rfl) ?_
          refine W.cond 6 100000 h530 (by kernel_rfl) (fun h530 => ?_) (fun h530 => ?_)
          ·
            cases h530; exact W.at 6 100000 [] [5, 7, 8, 14, 15, 16] (by kernel_rfl) K530
          ·
            cases h530; exact W.at 6 100000 [] [5, 7, 8, 14, 15, 16] (by kernel_rfl) K530
      ·
        cases h533; exact W.at 2 100000 [] [5] (by kernel_rfl) K533

theorem cellarerref09_Print_con {l_539 : List (List UInt8 × List UInt8 × List UInt8)} {r : List UInt8 × Int} (h : cellarerref09_Print l_539 = some r) : Con Go.Proofs.Tryd.prog 11 [AV.list (Ty.prod Ty.str (Ty.prod Ty.str Ty.str)) l_539 Bool.false] [] (cellarerref09_Print_res r) (cellarerref09_Print_out r) := by
  refine W.con (by kernel_rfl) ?_
  unfold cellarerref09_Print at h
  refine W.bind h fun a_540 ha_540 h => ?_
  refine W.call 0 100000 (by kernel_rfl) (cellarerref09_Check_con ha_540) (by kernel_rfl) ?_
  refine W.cond 0 100000 h (by kernel_rfl) (fun h => ?_) (fun h => ?_)
  ·
    exact W.retT 0 100000 h (by kernel_rfl)
  ·
    refine W.at 0 100000 [] [0, 5, 6] (c' := (fun (s_554 : List UInt8 × Int) => (Cfg.mk Mode.run (headTodo Go.Proofs.Tryd.prog 11 0) (St.mk [AV.list (Ty.prod Ty.str (Ty.prod Ty.str Ty.str)) l_539 Bool.false, jj, jj, jj, jj, AV.str (Prod.fst s_554), AV.int IntKind.i64 (Prod.snd s_554), jj, jj, jj, jj, jj, jj, jj, jj, jj, jj, jj, jj, jj, jj, jj, jj, jj, jj, jj, jj, jj, jj, jj, jj, jj, jj, jj, jj, jj, jj, jj, jj, jj, jj, jj, jj, jj, jj, jj, jj, jj, jj] [] (0 : Nat)))) ([], (0 : Int))) (by kernel_rfl) ?_
    refine W.loop (fun (s_554 : List UInt8 × Int) => (Cfg.mk Mode.run (headTodo Go.Proofs.Tryd.prog 11 0) (St.mk [AV.list (Ty.prod Ty.str (Ty.prod Ty.str Ty.str)) l_539 Bool.false, jj, jj, jj, jj, AV.str (Prod.fst s_554), AV.int IntKind.i64 (Prod.snd s_554), jj, jj, jj, jj, jj, jj, jj, jj, jj, jj, jj, jj, jj, jj, jj, jj, jj, jj, jj, jj, jj, jj, jj, jj, jj, jj, jj, jj, jj, jj, jj, jj, jj, jj, jj, jj, jj, jj, jj, jj, jj, jj] [] (0 : Nat)))) (fun t_548 => Walk Go.Proofs.Tryd.prog 11 (Cfg.mk Mode.run ((headTodo Go.Proofs.Tryd.prog 11 0).drop 3) (St.mk [jj, jj, jj, jj, jj, AV.str t_548, jj, jj, jj, jj, jj, jj, jj, jj, jj, jj, jj, jj, jj, jj, jj, jj, jj, jj, jj, jj, jj, jj, jj, jj, jj, jj, jj, jj, jj, jj, jj, jj, jj, jj, jj, jj, jj, jj, jj, jj, jj, jj, jj] [] (0 : Nat))) (cellarerref09_Print_res r) (cellarerref09_Print_out r)) h (fun t_548 h => ?_) (fun s_554 x550 h550 K550 => ?_)
    ·
      exact W.retT 0 100000 h (by kernel_rfl)
    · unfold cellarerref09_Print_b0 at h550
      refine W.cond 2 100000 h550 (by kernel_rfl) (fun h550 => ?_) (fun h550 => ?_)
      ·
        refine W.join (fun t_545 => Walk Go.Proofs.Tryd.prog 11 (Cfg.mk Mode.run (seqTodo Go.Proofs.Tryd.prog 11 12) (St.mk [AV.list (Ty.prod Ty.str (Ty.prod Ty.str Ty.str)) l_539 Bool.false, jj, jj, jj, jj, AV.str (Prod.fst s_554), AV.int IntKind.i64 (Prod.snd s_554), AV.str t_545, jj, jj, jj, jj, jj, jj, jj, jj, jj, jj, jj, jj, jj, jj, jj, jj, jj, jj, jj, jj, jj, jj, jj, jj, jj, jj, jj, jj, jj, jj, jj, jj, jj, jj, jj, jj, jj, jj, jj, jj, jj] [] (0 : Nat))) (cellarerref09_Print_res r) (cellarerref09_Print_out r)) h550 (fun t_545 h550 => ?_) (fun t547 h547 K547 => ?_)
        ·
          refine W.needT 2 100000 h550 (by kernel_rfl) (fun h550 => ?_)
          refine W.needT 2 100000 h550 (by kernel_rfl) (fun h550 => ?_)
          refine W.needT 2 100000 h550 (by kernel_rfl) (fun h550 => ?_)
          refine W.needT 2 100000 h550 (by kernel_rfl) (fun h550 => ?_)
          refine W.needT 2 100000 h550 (by kernel_rfl) (fun h550 => ?_)
          refine W.needT 2 100000 h550 (by kernel_rfl) (fun h550 => ?_)
          refine W.needT 2 100000 h550 (by kernel_rfl) (fun h550 => ?_)
          refine W.needT 2 100000 h550 (by kernel_rfl) (fun h550 => ?_)
          cases h550; exact W.at 2 100000 [] [0, 5, 6] (by kernel_rfl) K550
        · refine W.next 2 8 (by kernel_rfl) ?_
          refine W.needT 6 100000 h547 (by kernel_rfl) (fun h547 => ?_)
          refine W.cond 6 100000 h547 (by kernel_rfl) (fun h547 => ?_) (fun h547 => ?_)
          ·
            refine W.needT 6 100000 h547 (by kernel_rfl) (fun h547 => ?_)
            cases h547; exact W.at 6 100000 [] [0, 5, 6, 7] (by kernel_rfl) K547
          ·
            cases h547; exact W.at 6 100000 [] [0, 5, 6, 7] (by kernel_rfl) K547
      ·
        cases h550; exact W.at 2 100000 [] [5] (by kernel_rfl) K550

theorem divs_Parse_con {s_556 : List UInt8} {r : Int × List (List UInt8 × List UInt8 × List UInt8)} (h : divs_Parse s_556 = some r) : Con Go.Proofs.Tryd.prog 14 [AV.str s_556] [] (divs_Parse_res r) (divs_Parse_out r) := by
  refine W.con (by kernel_rfl) ?_
  unfold divs_Parse at h
  refine W.bind h fun a_557 ha_557 h => ?_
  refine W.call 0 100000 (by kernel_rfl) (stanza_Lines_con ha_557) (by kernel_rfl) ?_
  refine W.join (fun t => (Sum.elim (fun t_558 => r = ((2 : Int), [])) (fun t_559 => Walk Go.Proofs.Tryd.prog 14 (Cfg.mk Mode.run (seqTodo Go.Proofs.Tryd.prog 14 2) (St.mk [jj, jj, jj, jj, AV.view (0 : Nat) (0 : Nat) Option.none, jj, jj, jj, jj, jj, jj, jj, jj, jj, jj, jj, jj, jj, jj, jj, jj, jj, jj, jj, jj, jj, jj, jj, jj, jj, jj, jj, jj, jj, jj, jj, jj, jj, jj, jj, jj, jj, jj, jj, jj, jj, jj, jj, jj, jj, jj, jj, jj, jj, jj, jj, jj, jj, jj, jj, jj, jj] [AO.row Ty.str (Prod.snd a_557)] (0 : Nat))) (divs_Parse_res r) (divs_Parse_out r))) t) h (fun t h => ?_) (fun t581 h581 K581 => ?_)
  ·
    rcases t with t_558 | t_559
    · replace h := W.inl (h)
      refine W.elimL (?_)
      exact (Option.some.inj h).symm
    · replace h := W.inr (h)
      refine W.elimR (?_)
      refine W.need 0 100000 (p := (3 : Int) ≠ (0 : Int)) (by kernel_rfl) (by decide) ?_
      refine W.at 0 100000 [Co.own 6 (Ty.prod Ty.str (Ty.prod Ty.str Ty.str))] [4, 6, 24, 25] (c' := (fun (s_585 : Int × List (List UInt8 × List UInt8 × List UInt8)) => (Cfg.mk Mode.run (headTodo Go.Proofs.Tryd.prog 14 0) (St.mk [jj, jj, jj, jj, AV.view (0 : Nat) (0 : Nat) Option.none, jj, AV.view (1 : Nat) (0 : Nat) Option.none, jj, jj, jj, jj, jj, jj, jj, jj, jj, jj, jj, jj, jj, jj, jj, jj, jj, AV.int IntKind.i64 (IntKind.wrap IntKind.i64 (Int.tdiv ((↑(List.length (Prod.snd a_557)) : Int) - (↑(0 : Nat) : Int)) (3 : Int))), AV.int IntKind.i64 (Prod.fst s_585), jj, jj, jj, jj, jj, jj, jj, jj, jj, jj, jj, jj, jj, jj, jj, jj, jj, jj, jj, jj, jj, jj, jj, jj, jj, jj, jj, jj, jj, jj, jj, jj, jj, jj, jj, jj] [AO.row Ty.str (Prod.snd a_557), AO.row (Ty.prod Ty.str (Ty.prod Ty.str Ty.str)) (Prod.snd s_585)] (0 : Nat)))) ((0 : Int), [])) (by kernel_rfl) ?_
      refine W.loop (fun (s_585 : Int × List (List UInt8 × List UInt8 × List UInt8)) => (Cfg.mk Mode.run (headTodo Go.Proofs.Tryd.prog 14 0) (St.mk [jj, jj, jj, jj, AV.view (0 : Nat) (0 : Nat) Option.none, jj, AV.view (1 : Nat) (0 : Nat) Option.none, jj, jj, jj, jj, jj, jj, jj, jj, jj, jj, jj, jj, jj, jj, jj, jj, jj, AV.int IntKind.i64 (IntKind.wrap IntKind.i64 (Int.tdiv ((↑(List.length (Prod.snd a_557)) : Int) - (↑(0 : Nat) : Int)) (3 : Int))), AV.int IntKind.i64 (Prod.fst s_585), jj, jj, jj, jj, jj, jj, jj, jj, jj, jj, jj, jj, jj, jj, jj, jj, jj, jj, jj, jj, jj, jj, jj, jj, jj, jj, jj, jj, jj, jj, jj, jj, jj, jj, jj, jj] [AO.row Ty.str (Prod.snd a_557), AO.row (Ty.prod Ty.str (Ty.prod Ty.str Ty.str)) (Prod.snd s_585)] (0 : Nat)))) (fun t => (Sum.elim (fun t_575 => r = ((2 : Int), [])) (fun t_577 => Walk Go.Proofs.Tryd.prog 14 (Cfg.mk Mode.run ((headTodo Go.Proofs.Tryd.prog 14 0).drop 3) (St.mk [jj, jj, jj, jj, jj, jj, AV.view (0 : Nat) (0 : Nat) Option.none, jj, jj, jj, jj, jj, jj, jj, jj, jj, jj, jj, jj, jj, jj, jj, jj, jj, jj, jj, jj, jj, jj, jj, jj, jj, jj, jj, jj, jj, jj, jj, jj, jj, jj, jj, jj, jj, jj, jj, jj, jj, jj, jj, jj, jj, jj, jj, jj, jj, jj, jj, jj, jj, jj, jj] [AO.row (Ty.prod Ty.str (Ty.prod Ty.str Ty.str)) t_577] (0 : Nat))) (divs_Parse_res r) (divs_Parse_out r))) t) h (fun t h => ?_) (fun s_585 x580 h580 K580 => ?_)
      ·
        rcases t with t_575 | t_577
        · replace h := W.inl (h)
          refine W.elimL (?_)
          exact (Option.some.inj h).symm
        · replace h := W.inr (h)
          refine W.elimR (?_)
          refine W.bind h fun a_578 ha_578 h => ?_
          refine W.call 0 100000 (by kernel_rfl) (divs_Check_con ha_578) (by kernel_rfl) ?_
          refine W.cond 0 100000 h (by kernel_rfl) (fun h => ?_) (fun h => ?_)
          ·
            exact W.retT 0 100000 h (by kernel_rfl)
          ·
            exact W.retT 0 100000 h (by kernel_rfl)
      · unfold divs_Parse_b0 at h580
        refine W.cond 2 100000 h580 (by kernel_rfl) (fun h580 => ?_) (fun h580 => ?_)
        ·
          refine W.needT 2 100000 h580 (by kernel_rfl) (fun h580 => ?_)
          refine W.needT 2 100000 h580 (by kernel_rfl) (fun h580 => ?_)
          refine W.needT 2 100000 h580 (by kernel_rfl) (fun h580 => ?_)
          refine W.needT 2 100000 h580 (by kernel_rfl) (fun h580 => ?_)
          refine W.needT 2 100000 h580 (by kernel_rfl) (fun h580 => ?_)
          refine W.needT 2 100000 h580 (by kernel_rfl) (fun h580 => ?_)
          refine W.join (fun t => (Sum.elim (fun t_571 => r = ((2 : Int), [])) (fun t_573 => Walk Go.Proofs.Tryd.prog 14 (Cfg.mk Mode.run (seqTodo Go.Proofs.Tryd.prog 14 13) (St.mk [jj, jj, jj, jj, AV.view (0 : Nat) (0 : Nat) Option.none, jj, AV.view (1 : Nat) (0 : Nat) Option.none, jj, AV.ptr (2 : Nat) (0 : Nat), jj, jj, jj, jj, jj, jj, jj, jj, jj, jj, jj, jj, jj, jj, jj, AV.int IntKind.i64 (IntKind.wrap IntKind.i64 (Int.tdiv ((↑(List.length (Prod.snd a_557)) : Int) - (↑(0 : Nat) : Int)) (3 : Int))), AV.int IntKind.i64 (Prod.fst s_585), jj, jj, jj, jj, jj, jj, jj, jj, jj, jj, jj, jj, jj, jj, jj, jj, jj, jj, jj, jj, jj, jj, jj, jj, jj, jj, jj, jj, jj, jj, jj, jj, jj, jj, jj, jj] [AO.row Ty.str (Prod.snd a_557), AO.row (Ty.prod Ty.str (Ty.prod Ty.str Ty.str)) (Prod.snd s_585), AO.box [AV.str (List.getD (Prod.snd a_557) ((0 : Nat) + Int.toNat (IntKind.wrap IntKind.i64 ((3 : Int) * Prod.fst s_585))) []), AV.str (List.getD (Prod.snd a_557) ((0 : Nat) + Int.toNat (IntKind.wrap IntKind.i64 (IntKind.wrap IntKind.i64 ((3 : Int) * Prod.fst s_585) + (1 : Int)))) []), AV.str t_573]] (0 : Nat))) (divs_Parse_res r) (divs_Parse_out r))) t) h580 (fun t h580 => ?_) (fun t575 h575 K575 => ?_)
          ·
            rcases t with t_571 | t_573
            · replace h580 := W.inl (h580)
              refine W.elimL (?_)
              cases h580; exact K580
            · replace h580 := W.inr (h580)
              refine W.elimR (?_)
              refine W.needT 2 100000 h580 (by kernel_rfl) (fun h580 => ?_)
              cases h580; exact W.at 2 100000 [Co.own 6 (Ty.prod Ty.str (Ty.prod Ty.str Ty.str))] [4, 6, 24, 25] (by kernel_rfl) K580
          · refine W.next 2 5 (by kernel_rfl) ?_
            refine W.cond 6 100000 h575 (by kernel_rfl) (fun h575 => ?_) (fun h575 => ?_)
            ·
              cases h575; exact W.retK 6 100000 K575 (by kernel_rfl)
            ·
              refine W.cond 6 100000 h575 (by kernel_rfl) (fun h575 => ?_) (fun h575 => ?_)
              ·
                cases h575; exact W.at 6 100000 [] [4, 6, 8, 24, 25] (by kernel_rfl) K575
              ·
                cases h575; exact W.at 6 100000 [] [4, 6, 8, 24, 25] (by kernel_rfl) K575
        ·
          cases h580; exact W.at 2 100000 [] [6] (by kernel_rfl) K580
  · refine W.next 0 7 (by kernel_rfl) ?_
    refine W.cond 1 100000 h581 (by kernel_rfl) (fun h581 => ?_) (fun h581 => ?_)
    ·
      refine W.yes 1 100000 (by kernel_rfl) ?_
      refine W.yes 1 100000 (by kernel_rfl) ?_
      refine W.yes 1 100000 (by kernel_rfl) ?_
      refine W.yes 1 100000 (by kernel_rfl) ?_
      refine W.yes 1 100000 (by kernel_rfl) ?_
      cases h581; exact W.retK 1 100000 K581 (by kernel_rfl)
    ·
      refine W.no 1 100000 (by kernel_rfl) ?_
      refine W.no 1 100000 (by kernel_rfl) ?_
      refine W.need 1 100000 (p := (3 : Int) ≠ (0 : Int)) (by kernel_rfl) (by decide) ?_
      refine W.no 1 100000 (by kernel_rfl) ?_
      refine W.no 1 100000 (by kernel_rfl) ?_
      refine W.cond 1 100000 h581 (by kernel_rfl) (fun h581 => ?_) (fun h581 => ?_)
      ·
        cases h581; exact W.retK 1 100000 K581 (by kernel_rfl)
      ·
        cases h581; exact W.at 1 100000 [] [4] (by kernel_rfl) K581

theorem cellarerref09_Parse_con {s_587 : List UInt8} {r : Bool × List (List UInt8 × List UInt8 × List UInt8)} (h : cellarerref09_Parse s_587 = some r) : Con Go.Proofs.Tryd.prog 16 [AV.str s_587] [] (cellarerref09_Parse_res r) (cellarerref09_Parse_out r) := by
  refine W.con (by kernel_rfl) ?_
  unfold cellarerref09_Parse at h
  refine W.bind h fun a_588 ha_588 h => ?_
  refine W.call 0 100000 (by kernel_rfl) (cellarerref06_Lines_con ha_588) (by kernel_rfl) ?_
  refine W.at 0 100000 [Co.own 4 (Ty.prod Ty.str (Ty.prod Ty.str Ty.str))] [0, 4, 5, 6, 7] (c' := (fun (s_612 : Int × List (List UInt8 × List UInt8 × List UInt8)) => (Cfg.mk Mode.run (headTodo Go.Proofs.Tryd.prog 16 0) (St.mk [AV.str s_587, jj, jj, jj, AV.view (0 : Nat) (0 : Nat) Option.none, AV.view (1 : Nat) (0 : Nat) Option.none, AV.bool (Prod.fst a_588), AV.int IntKind.i64 (Prod.fst s_612), jj, jj, jj, jj, jj, jj, jj, jj, jj, jj, jj, jj, jj, jj, jj, jj, jj, jj, jj, jj, jj, jj, jj, jj, jj, jj, jj, jj, jj, jj, jj, jj, jj, jj, jj, jj, jj, jj, jj, jj, jj, jj, jj, jj, jj, jj, jj, jj, jj, jj, jj, jj, jj, jj, jj, jj, jj, jj] [AO.row (Ty.prod Ty.str (Ty.prod Ty.str Ty.str)) (Prod.snd s_612), AO.row Ty.str (Prod.snd a_588)] (0 : Nat)))) ((0 : Int), [])) (by kernel_rfl) ?_
  refine W.loop (fun (s_612 : Int × List (List UInt8 × List UInt8 × List UInt8)) => (Cfg.mk Mode.run (headTodo Go.Proofs.Tryd.prog 16 0) (St.mk [AV.str s_587, jj, jj, jj, AV.view (0 : Nat) (0 : Nat) Option.none, AV.view (1 : Nat) (0 : Nat) Option.none, AV.bool (Prod.fst a_588), AV.int IntKind.i64 (Prod.fst s_612), jj, jj, jj, jj, jj, jj, jj, jj, jj, jj, jj, jj, jj, jj, jj, jj, jj, jj, jj, jj, jj, jj, jj, jj, jj, jj, jj, jj, jj, jj, jj, jj, jj, jj, jj, jj, jj, jj, jj, jj, jj, jj, jj, jj, jj, jj, jj, jj, jj, jj, jj, jj, jj, jj, jj, jj, jj, jj] [AO.row (Ty.prod Ty.str (Ty.prod Ty.str Ty.str)) (Prod.snd s_612), AO.row Ty.str (Prod.snd a_588)] (0 : Nat)))) (fun t_605 => Walk Go.Proofs.Tryd.prog 16 (Cfg.mk Mode.run ((headTodo Go.Proofs.Tryd.prog 16 0).drop 3) (St.mk [AV.str s_587, jj, jj, jj, AV.view (0 : Nat) (0 : Nat) Option.none, jj, AV.bool (Prod.fst a_588), jj, jj, jj, jj, jj, jj, jj, jj, jj, jj, jj, jj, jj, jj, jj, jj, jj, jj, jj, jj, jj, jj, jj, jj, jj, jj, jj, jj, jj, jj, jj, jj, jj, jj, jj, jj, jj, jj, jj, jj, jj, jj, jj, jj, jj, jj, jj, jj, jj, jj, jj, jj, jj, jj, jj, jj, jj, jj, jj] [AO.row (Ty.prod Ty.str (Ty.prod Ty.str Ty.str)) t_605] (0 : Nat))) (cellarerref09_Parse_res r) (cellarerref09_Parse_out r)) h (fun t_605 h => ?_) (fun s_612 x608 h608 K608 => ?_)
  ·
    refine W.bind h fun a_606 ha_606 h => ?_
    refine W.call 0 100000 (by kernel_rfl) (cellarerref09_Print_con ha_606) (by kernel_rfl) ?_
    refine W.cond 0 100000 h (by kernel_rfl) (fun h => ?_) (fun h => ?_)
    ·
      refine W.yes 0 100000 (by kernel_rfl) ?_
      refine W.yes 0 100000 (by kernel_rfl) ?_
      refine W.yes 0 100000 (by kernel_rfl) ?_
      refine W.yes 0 100000 (by kernel_rfl) ?_
      refine W.yes 0 100000 (by kernel_rfl) ?_
      refine W.yes 0 100000 (by kernel_rfl) ?_
      refine W.yes 0 100000 (by kernel_rfl) ?_
      exact W.retT 0 100000 h (by kernel_rfl)
    ·
      refine W.no 0 100000 (by kernel_rfl) ?_
      refine W.no 0 100000 (by kernel_rfl) ?_
      refine W.cond 0 100000 h (by kernel_rfl) (fun h => ?_) (fun h => ?_)
      ·
        refine W.yes 0 100000 (by kernel_rfl) ?_
        refine W.yes 0 100000 (by kernel_rfl) ?_
        refine W.yes 0 100000 (by kernel_rfl) ?_
        refine W.yes 0 100000 (by kernel_rfl) ?_
        exact W.retT 0 100000 h (by kernel_rfl)
      ·
        refine W.no 0 100000 (by kernel_rfl) ?_
        refine W.no 0 100000 (by kernel_rfl) ?_
        refine W.no 0 100000 (by kernel_rfl) ?_
        refine W.cond 0 100000 h (by kernel_rfl) (fun h => ?_) (fun h => ?_)
        ·
          exact W.retT 0 100000 h (by kernel_rfl)
        ·
          exact W.retT 0 100000 h (by kernel_rfl)
  · unfold cellarerref09_Parse_b0 at h608
    refine W.cond 2 100000 h608 (by kernel_rfl) (fun h608 => ?_) (fun h608 => ?_)
    ·
      refine W.needT 2 100000 h608 (by kernel_rfl) (fun h608 => ?_)
      refine W.needT 2 100000 h608 (by kernel_rfl) (fun h608 => ?_)
      refine W.needT 2 100000 h608 (by kernel_rfl) (fun h608 => ?_)
      refine W.needT 2 100000 h608 (by kernel_rfl) (fun h608 => ?_)
      refine W.join (fun t_602 => Walk Go.Proofs.Tryd.prog 16 (Cfg.mk Mode.run (seqTodo Go.Proofs.Tryd.prog 16 9) (St.mk [AV.str s_587, jj, jj, jj, AV.view (0 : Nat) (0 : Nat) Option.none, AV.view (1 : Nat) (0 : Nat) Option.none, AV.bool (Prod.fst a_588), AV.int IntKind.i64 (Prod.fst s_612), AV.ptr (2 : Nat) (0 : Nat), jj, jj, jj, jj, jj, jj, jj, jj, jj, jj, jj, jj, jj, jj, jj, jj, jj, jj, jj, jj, jj, jj, jj, jj, jj, jj, jj, jj, jj, jj, jj, jj, jj, jj, jj, jj, jj, jj, jj, jj, jj, jj, jj, jj, jj, jj, jj, jj, jj, jj, jj, jj, jj, jj, jj, jj, jj] [AO.row (Ty.prod Ty.str (Ty.prod Ty.str Ty.str)) (Prod.snd s_612), AO.row Ty.str (Prod.snd a_588), AO.box [AV.str (List.getD (Prod.snd a_588) ((0 : Nat) + Int.toNat (Prod.fst s_612)) []), AV.str (List.getD (Prod.snd a_588) ((0 : Nat) + Int.toNat (IntKind.wrap IntKind.i64 (Prod.fst s_612 + (1 : Int)))) []), AV.str t_602]] (0 : Nat))) (cellarerref09_Parse_res r) (cellarerref09_Parse_out r)) h608 (fun t_602 h608 => ?_) (fun t604 h604 K604 => ?_)
      ·
        refine W.needT 2 100000 h608 (by kernel_rfl) (fun h608 => ?_)
        cases h608; exact W.at 2 100000 [Co.own 4 (Ty.prod Ty.str (Ty.prod Ty.str Ty.str))] [0, 4, 5, 6, 7] (by kernel_rfl) K608
      · refine W.next 2 5 (by kernel_rfl) ?_
        refine W.needT 6 100000 h604 (by kernel_rfl) (fun h604 => ?_)
        refine W.needT 6 100000 h604 (by kernel_rfl) (fun h604 => ?_)
        refine W.cond 6 100000 h604 (by kernel_rfl) (fun h604 => ?_) (fun h604 => ?_)
        ·
          refine W.needT 6 100000 h604 (by kernel_rfl) (fun h604 => ?_)
          refine W.needT 6 100000 h604 (by kernel_rfl) (fun h604 => ?_)
          cases h604; exact W.at 6 100000 [] [0, 4, 5, 6, 7, 8] (by kernel_rfl) K604
        ·
          cases h604; exact W.at 6 100000 [] [0, 4, 5, 6, 7, 8] (by kernel_rfl) K604
    ·
      cases h608; exact W.at 2 100000 [] [0, 4, 6] (by kernel_rfl) K608

theorem cellarerlaw09_awake_con  {r : Bool} (h : cellarerlaw09_awake  = some r) : Con Go.Proofs.Tryd.prog 9 [] [] (cellarerlaw09_awake_res r) (cellarerlaw09_awake_out r) := by
  refine W.con (by kernel_rfl) ?_
  unfold cellarerlaw09_awake at h
  refine W.bind h fun a_613 ha_613 h => ?_
  refine W.call 0 100000 (by kernel_rfl) (divs_Print_con ha_613) (by kernel_rfl) ?_
  refine W.bind h fun a_614 ha_614 h => ?_
  refine W.call 0 100000 (by kernel_rfl) (divs_Parse_con ha_614) (by kernel_rfl) ?_
  refine W.cond 0 100000 h (by kernel_rfl) (fun h => ?_) (fun h => ?_)
  ·
    refine W.yes 0 100000 (by kernel_rfl) ?_
    refine W.yes 0 100000 (by kernel_rfl) ?_
    refine W.cond 0 100000 h (by kernel_rfl) (fun h => ?_) (fun h => ?_)
    ·
      refine W.yes 0 100000 (by kernel_rfl) ?_
      refine W.yes 0 100000 (by kernel_rfl) ?_
      refine W.cond 0 100000 h (by kernel_rfl) (fun h => ?_) (fun h => ?_)
      ·
        refine W.yes 0 100000 (by kernel_rfl) ?_
        refine W.yes 0 100000 (by kernel_rfl) ?_
        refine W.bind h fun a_615 ha_615 h => ?_
        refine W.call 0 100000 (by kernel_rfl) (cellarerref09_Same_con ha_615) (by kernel_rfl) ?_
        refine W.yes 0 100000 (by kernel_rfl) ?_
        refine W.cond 0 100000 h (by kernel_rfl) (fun h => ?_) (fun h => ?_)
        ·
          refine W.yes 0 100000 (by kernel_rfl) ?_
          refine W.bind h fun a_616 ha_616 h => ?_
          refine W.call 0 100000 (by kernel_rfl) (divs_True_con ha_616) (by kernel_rfl) ?_
          refine W.yes 0 100000 (by kernel_rfl) ?_
          refine W.yes 0 100000 (by kernel_rfl) ?_
          refine W.cond 0 100000 h (by kernel_rfl) (fun h => ?_) (fun h => ?_)
          ·
            refine W.yes 0 100000 (by kernel_rfl) ?_
            refine W.bind h fun a_617 ha_617 h => ?_
            refine W.call 0 100000 (by kernel_rfl) (divs_True_con ha_617) (by kernel_rfl) ?_
            refine W.yes 0 100000 (by kernel_rfl) ?_
            refine W.yes 0 100000 (by kernel_rfl) ?_
            refine W.cond 0 100000 h (by kernel_rfl) (fun h => ?_) (fun h => ?_)
            ·
              refine W.yes 0 100000 (by kernel_rfl) ?_
              refine W.need 0 100000 (p := (0 : Int) ≤ (0 : Int) ∧ (0 : Int) < (↑(List.length ((fun (x : List (Ty.T (Ty.prod Ty.str (Ty.prod Ty.str Ty.str)))) => x) [([(47 : UInt8), (97 : UInt8)], [(47 : UInt8), (98 : UInt8)], [(120 : UInt8)])])) : Int)) (by kernel_rfl) (by decide) ?_
              refine W.yes 0 100000 (by kernel_rfl) ?_
              refine W.yes 0 100000 (by kernel_rfl) ?_
              refine W.bind h fun a_618 ha_618 h => ?_
              refine W.call 0 100000 (by kernel_rfl) (divs_Right_con ha_618) (by kernel_rfl) ?_
              refine W.yes 0 100000 (by kernel_rfl) ?_
              exact W.retT 0 100000 h (by kernel_rfl)
            ·
              refine W.no 0 100000 (by kernel_rfl) ?_
              refine W.no 0 100000 (by kernel_rfl) ?_
              refine W.no 0 100000 (by kernel_rfl) ?_
              refine W.no 0 100000 (by kernel_rfl) ?_
              exact W.retT 0 100000 h (by kernel_rfl)
          ·
            refine W.no 0 100000 (by kernel_rfl) ?_
            refine W.no 0 100000 (by kernel_rfl) ?_
            refine W.no 0 100000 (by kernel_rfl) ?_
            refine W.no 0 100000 (by kernel_rfl) ?_
            refine W.no 0 100000 (by kernel_rfl) ?_
            refine W.no 0 100000 (by kernel_rfl) ?_
            refine W.no 0 100000 (by kernel_rfl) ?_
            refine W.no 0 100000 (by kernel_rfl) ?_
            exact W.retT 0 100000 h (by kernel_rfl)
        ·
          refine W.no 0 100000 (by kernel_rfl) ?_
          refine W.no 0 100000 (by kernel_rfl) ?_
          refine W.no 0 100000 (by kernel_rfl) ?_
          refine W.no 0 100000 (by kernel_rfl) ?_
          refine W.no 0 100000 (by kernel_rfl) ?_
          refine W.no 0 100000 (by kernel_rfl) ?_
          refine W.no 0 100000 (by kernel_rfl) ?_
          refine W.no 0 100000 (by kernel_rfl) ?_
          refine W.no 0 100000 (by kernel_rfl) ?_
          refine W.no 0 100000 (by kernel_rfl) ?_
          refine W.no 0 100000 (by kernel_rfl) ?_
          refine W.no 0 100000 (by kernel_rfl) ?_
          exact W.retT 0 100000 h (by kernel_rfl)
      ·
        refine W.no 0 100000 (by kernel_rfl) ?_
        refine W.no 0 100000 (by kernel_rfl) ?_
        refine W.no 0 100000 (by kernel_rfl) ?_
        refine W.no 0 100000 (by kernel_rfl) ?_
        refine W.no 0 100000 (by kernel_rfl) ?_
        refine W.no 0 100000 (by kernel_rfl) ?_
        refine W.no 0 100000 (by kernel_rfl) ?_
        refine W.no 0 100000 (by kernel_rfl) ?_
        refine W.no 0 100000 (by kernel_rfl) ?_
        refine W.no 0 100000 (by kernel_rfl) ?_
        refine W.no 0 100000 (by kernel_rfl) ?_
        refine W.no 0 100000 (by kernel_rfl) ?_
        refine W.no 0 100000 (by kernel_rfl) ?_
        refine W.no 0 100000 (by kernel_rfl) ?_
        refine W.no 0 100000 (by kernel_rfl) ?_
        refine W.no 0 100000 (by kernel_rfl) ?_
        exact W.retT 0 100000 h (by kernel_rfl)
    ·
      refine W.no 0 100000 (by kernel_rfl) ?_
      refine W.no 0 100000 (by kernel_rfl) ?_
      refine W.no 0 100000 (by kernel_rfl) ?_
      refine W.no 0 100000 (by kernel_rfl) ?_
      refine W.no 0 100000 (by kernel_rfl) ?_
      refine W.no 0 100000 (by kernel_rfl) ?_
      refine W.no 0 100000 (by kernel_rfl) ?_
      refine W.no 0 100000 (by kernel_rfl) ?_
      refine W.no 0 100000 (by kernel_rfl) ?_
      refine W.no 0 100000 (by kernel_rfl) ?_
      refine W.no 0 100000 (by kernel_rfl) ?_
      refine W.no 0 100000 (by kernel_rfl) ?_
      refine W.no 0 100000 (by kernel_rfl) ?_
      refine W.no 0 100000 (by kernel_rfl) ?_
      refine W.no 0 100000 (by kernel_rfl) ?_
      refine W.no 0 100000 (by kernel_rfl) ?_
      refine W.no 0 100000 (by kernel_rfl) ?_
      refine W.no 0 100000 (by kernel_rfl) ?_
      refine W.no 0 100000 (by kernel_rfl) ?_
      exact W.retT 0 100000 h (by kernel_rfl)
  ·
    refine W.no 0 100000 (by kernel_rfl) ?_
    refine W.no 0 100000 (by kernel_rfl) ?_
    refine W.no 0 100000 (by kernel_rfl) ?_
    refine W.no 0 100000 (by kernel_rfl) ?_
    refine W.no 0 100000 (by kernel_rfl) ?_
    refine W.no 0 100000 (by kernel_rfl) ?_
    refine W.no 0 100000 (by kernel_rfl) ?_
    refine W.no 0 100000 (by kernel_rfl) ?_
    refine W.no 0 100000 (by kernel_rfl) ?_
    refine W.no 0 100000 (by kernel_rfl) ?_
    refine W.no 0 100000 (by kernel_rfl) ?_
    refine W.no 0 100000 (by kernel_rfl) ?_
    refine W.no 0 100000 (by kernel_rfl) ?_
    refine W.no 0 100000 (by kernel_rfl) ?_
    refine W.no 0 100000 (by kernel_rfl) ?_
    refine W.no 0 100000 (by kernel_rfl) ?_
    refine W.no 0 100000 (by kernel_rfl) ?_
    refine W.no 0 100000 (by kernel_rfl) ?_
    refine W.no 0 100000 (by kernel_rfl) ?_
    refine W.no 0 100000 (by kernel_rfl) ?_
    refine W.no 0 100000 (by kernel_rfl) ?_
    refine W.no 0 100000 (by kernel_rfl) ?_
    exact W.retT 0 100000 h (by kernel_rfl)

theorem cellarerlaw09_DivsPrints_con {l_622 : List (List UInt8 × List UInt8 × List UInt8)} {r : Bool} (h : cellarerlaw09_DivsPrints l_622 = some r) : Con Go.Proofs.Tryd.prog 3 [AV.list (Ty.prod Ty.str (Ty.prod Ty.str Ty.str)) l_622 Bool.false] [] (cellarerlaw09_DivsPrints_res r) (cellarerlaw09_DivsPrints_out r) := by
  refine W.con (by kernel_rfl) ?_
  unfold cellarerlaw09_DivsPrints at h
  refine W.bind h fun a_623 ha_623 h => ?_
  refine W.call 0 100000 (by kernel_rfl) (cellarerlaw09_Few_con ha_623) (by kernel_rfl) ?_
  refine W.cond 0 100000 h (by kernel_rfl) (fun h => ?_) (fun h => ?_)
  ·
    refine W.bind h fun a_624 ha_624 h => ?_
    refine W.call 0 100000 (by kernel_rfl) (cellarerlaw09_awake_con ha_624) (by kernel_rfl) ?_
    exact W.retT 0 100000 h (by kernel_rfl)
  ·
    refine W.bind h fun a_625 ha_625 h => ?_
    refine W.call 0 100000 (by kernel_rfl) (divs_Print_con ha_625) (by kernel_rfl) ?_
    refine W.bind h fun a_626 ha_626 h => ?_
    refine W.call 0 100000 (by kernel_rfl) (cellarerref09_Print_con ha_626) (by kernel_rfl) ?_
    refine W.join (fun t => (Sum.elim (fun t_629 => r = (Bool.false)) (fun t_630 => Walk Go.Proofs.Tryd.prog 3 (Cfg.mk Mode.run (seqTodo Go.Proofs.Tryd.prog 3 6) (St.mk [AV.list (Ty.prod Ty.str (Ty.prod Ty.str Ty.str)) l_622 Bool.false, jj, jj, AV.str (Prod.fst a_625), AV.int IntKind.i64 (Prod.snd a_625), jj, jj, jj, jj, jj, jj, jj, jj, jj, jj, jj, jj, jj, jj, jj, jj, jj, jj, jj, jj, jj, jj, jj, jj, jj, jj, jj, jj, jj, jj, jj, jj, jj, jj, jj, jj, jj, jj, jj, jj, jj, jj, jj, jj, jj, jj, jj, jj, jj, jj, jj] [] (0 : Nat))) (cellarerlaw09_DivsPrints_res r) (cellarerlaw09_DivsPrints_out r))) t) h (fun t h => ?_) (fun t636 h636 K636 => ?_)
    ·
      rcases t with t_629 | t_630
      · replace h := W.inl (h)
        refine W.elimL (?_)
        exact (Option.some.inj h).symm
      · replace h := W.inr (h)
        refine W.elimR (?_)
        refine W.cond 0 100000 h (by kernel_rfl) (fun h => ?_) (fun h => ?_)
        ·
          refine W.bind h fun a_631 ha_631 h => ?_
          refine W.call 0 100000 (by kernel_rfl) (cellarerlaw09_awake_con ha_631) (by kernel_rfl) ?_
          exact W.retT 0 100000 h (by kernel_rfl)
        ·
          refine W.bind h fun a_632 ha_632 h => ?_
          refine W.call 0 100000 (by kernel_rfl) (divs_Parse_con ha_632) (by kernel_rfl) ?_
          refine W.cond 0 100000 h (by kernel_rfl) (fun h => ?_) (fun h => ?_)
          ·
            refine W.yes 0 100000 (by kernel_rfl) ?_
            refine W.yes 0 100000 (by kernel_rfl) ?_
            refine W.bind h fun a_633 ha_633 h => ?_
            refine W.call 0 100000 (by kernel_rfl) (cellarerref09_Same_con ha_633) (by kernel_rfl) ?_
            refine W.yes 0 100000 (by kernel_rfl) ?_
            refine W.cond 0 100000 h (by kernel_rfl) (fun h => ?_) (fun h => ?_)
            ·
              refine W.bind h fun a_634 ha_634 h => ?_
              refine W.call 0 100000 (by kernel_rfl) (cellarerlaw09_awake_con ha_634) (by kernel_rfl) ?_
              refine W.yes 0 100000 (by kernel_rfl) ?_
              exact W.retT 0 100000 h (by kernel_rfl)
            ·
              refine W.no 0 100000 (by kernel_rfl) ?_
              exact W.retT 0 100000 h (by kernel_rfl)
          ·
            refine W.no 0 100000 (by kernel_rfl) ?_
            refine W.no 0 100000 (by kernel_rfl) ?_
            refine W.no 0 100000 (by kernel_rfl) ?_
            refine W.no 0 100000 (by kernel_rfl) ?_
            refine W.no 0 100000 (by kernel_rfl) ?_
            exact W.retT 0 100000 h (by kernel_rfl)
    · refine W.next 0 7 (by kernel_rfl) ?_
      refine W.cond 1 100000 h636 (by kernel_rfl) (fun h636 => ?_) (fun h636 => ?_)
      ·
        refine W.yes 1 100000 (by kernel_rfl) ?_
        refine W.yes 1 100000 (by kernel_rfl) ?_
        refine W.yes 1 100000 (by kernel_rfl) ?_
        refine W.yes 1 100000 (by kernel_rfl) ?_
        refine W.yes 1 100000 (by kernel_rfl) ?_
        refine W.yes 1 100000 (by kernel_rfl) ?_
        refine W.yes 1 100000 (by kernel_rfl) ?_
        refine W.yes 1 100000 (by kernel_rfl) ?_
        refine W.yes 1 100000 (by kernel_rfl) ?_
        refine W.yes 1 100000 (by kernel_rfl) ?_
        cases h636; exact W.retK 1 100000 K636 (by kernel_rfl)
      ·
        refine W.no 1 100000 (by kernel_rfl) ?_
        refine W.no 1 100000 (by kernel_rfl) ?_
        refine W.no 1 100000 (by kernel_rfl) ?_
        refine W.cond 1 100000 h636 (by kernel_rfl) (fun h636 => ?_) (fun h636 => ?_)
        ·
          refine W.yes 1 100000 (by kernel_rfl) ?_
          refine W.yes 1 100000 (by kernel_rfl) ?_
          refine W.yes 1 100000 (by kernel_rfl) ?_
          refine W.yes 1 100000 (by kernel_rfl) ?_
          refine W.yes 1 100000 (by kernel_rfl) ?_
          refine W.yes 1 100000 (by kernel_rfl) ?_
          cases h636; exact W.retK 1 100000 K636 (by kernel_rfl)
        ·
          refine W.no 1 100000 (by kernel_rfl) ?_
          refine W.bind h636 fun a_627 ha_627 h636 => ?_
          refine W.call 1 100000 (by kernel_rfl) (divs_Check_con ha_627) (by kernel_rfl) ?_
          refine W.no 1 100000 (by kernel_rfl) ?_
          refine W.no 1 100000 (by kernel_rfl) ?_
          refine W.bind h636 fun a_628 ha_628 h636 => ?_
          refine W.call 1 100000 (by kernel_rfl) (cellarerref09_Check_con ha_628) (by kernel_rfl) ?_
          refine W.no 1 100000 (by kernel_rfl) ?_
          refine W.no 1 100000 (by kernel_rfl) ?_
          refine W.cond 1 100000 h636 (by kernel_rfl) (fun h636 => ?_) (fun h636 => ?_)
          ·
            cases h636; exact W.retK 1 100000 K636 (by kernel_rfl)
          ·
            cases h636; exact W.at 1 100000 [] [0, 3, 4] (by kernel_rfl) K636

theorem cellarerlaw09_DivsParses_con {s_639 : List UInt8} {r : Bool} (h : cellarerlaw09_DivsParses s_639 = some r) : Con Go.Proofs.Tryd.prog 4 [AV.str s_639] [] (cellarerlaw09_DivsParses_res r) (cellarerlaw09_DivsParses_out r) := by
  refine W.con (by kernel_rfl) ?_
  unfold cellarerlaw09_DivsParses at h
  refine W.cond 0 100000 h (by kernel_rfl) (fun h => ?_) (fun h => ?_)
  ·
    refine W.bind h fun a_640 ha_640 h => ?_
    refine W.call 0 100000 (by kernel_rfl) (cellarerlaw09_awake_con ha_640) (by kernel_rfl) ?_
    exact W.retT 0 100000 h (by kernel_rfl)
  ·
    refine W.bind h fun a_641 ha_641 h => ?_
    refine W.call 0 100000 (by kernel_rfl) (divs_Parse_con ha_641) (by kernel_rfl) ?_
    refine W.bind h fun a_642 ha_642 h => ?_
    refine W.call 0 100000 (by kernel_rfl) (cellarerref09_Parse_con ha_642) (by kernel_rfl) ?_
    refine W.join (fun t => (Sum.elim (fun t_644 => r = (Bool.false)) (fun t_645 => Walk Go.Proofs.Tryd.prog 4 (Cfg.mk Mode.run (seqTodo Go.Proofs.Tryd.prog 4 6) (St.mk [AV.str s_639, jj, jj, AV.view (0 : Nat) (0 : Nat) Option.none, jj, jj, AV.bool (Prod.fst a_642), jj, jj, jj, jj, jj, jj, jj, jj, jj, jj, jj, jj, jj, jj, jj, jj, jj, jj, jj, jj, jj, jj, jj, jj, jj, jj, jj, jj, jj, jj, jj, jj, jj, jj, jj, jj, jj, jj, jj, jj, jj, jj, jj, jj, jj, jj, jj, jj, jj, jj, jj, jj, jj, jj, jj, jj, jj, jj, jj, jj] [AO.row (Ty.prod Ty.str (Ty.prod Ty.str Ty.str)) (Prod.snd a_641)] (0 : Nat))) (cellarerlaw09_DivsParses_res r) (cellarerlaw09_DivsParses_out r))) t) h (fun t h => ?_) (fun t650 h650 K650 => ?_)
    ·
      rcases t with t_644 | t_645
      · replace h := W.inl (h)
        refine W.elimL (?_)
        exact (Option.some.inj h).symm
      · replace h := W.inr (h)
        refine W.elimR (?_)
        refine W.cond 0 100000 h (by kernel_rfl) (fun h => ?_) (fun h => ?_)
        ·
          refine W.bind h fun a_646 ha_646 h => ?_
          refine W.call 0 100000 (by kernel_rfl) (cellarerlaw09_awake_con ha_646) (by kernel_rfl) ?_
          exact W.retT 0 100000 h (by kernel_rfl)
        ·
          refine W.bind h fun a_647 ha_647 h => ?_
          refine W.call 0 100000 (by kernel_rfl) (divs_Print_con ha_647) (by kernel_rfl) ?_
          refine W.cond 0 100000 h (by kernel_rfl) (fun h => ?_) (fun h => ?_)
          ·
            refine W.yes 0 100000 (by kernel_rfl) ?_
            refine W.yes 0 100000 (by kernel_rfl) ?_
            refine W.yes 0 100000 (by kernel_rfl) ?_
            refine W.cond 0 100000 h (by kernel_rfl) (fun h => ?_) (fun h => ?_)
            ·
              refine W.bind h fun a_648 ha_648 h => ?_
              refine W.call 0 100000 (by kernel_rfl) (cellarerlaw09_awake_con ha_648) (by kernel_rfl) ?_
              refine W.yes 0 100000 (by kernel_rfl) ?_
              exact W.retT 0 100000 h (by kernel_rfl)
            ·
              refine W.no 0 100000 (by kernel_rfl) ?_
              exact W.retT 0 100000 h (by kernel_rfl)
          ·
            refine W.no 0 100000 (by kernel_rfl) ?_
            refine W.no 0 100000 (by kernel_rfl) ?_
            refine W.no 0 100000 (by kernel_rfl) ?_
            refine W.no 0 100000 (by kernel_rfl) ?_
            refine W.no 0 100000 (by kernel_rfl) ?_
            exact W.retT 0 100000 h (by kernel_rfl)
    · refine W.next 0 7 (by kernel_rfl) ?_
      refine W.cond 1 100000 h650 (by kernel_rfl) (fun h650 => ?_) (fun h650 => ?_)
      ·
        refine W.yes 1 100000 (by kernel_rfl) ?_
        refine W.yes 1 100000 (by kernel_rfl) ?_
        refine W.yes 1 100000 (by kernel_rfl) ?_
        refine W.yes 1 100000 (by kernel_rfl) ?_
        refine W.yes 1 100000 (by kernel_rfl) ?_
        refine W.yes 1 100000 (by kernel_rfl) ?_
        refine W.yes 1 100000 (by kernel_rfl) ?_
        refine W.yes 1 100000 (by kernel_rfl) ?_
        refine W.yes 1 100000 (by kernel_rfl) ?_
        cases h650; exact W.retK 1 100000 K650 (by kernel_rfl)
      ·
        refine W.no 1 100000 (by kernel_rfl) ?_
        refine W.cond 1 100000 h650 (by kernel_rfl) (fun h650 => ?_) (fun h650 => ?_)
        ·
          refine W.yes 1 100000 (by kernel_rfl) ?_
          refine W.yes 1 100000 (by kernel_rfl) ?_
          refine W.bind h650 fun a_643 ha_643 h650 => ?_
          refine W.call 1 100000 (by kernel_rfl) (cellarerref09_Same_con ha_643) (by kernel_rfl) ?_
          refine W.yes 1 100000 (by kernel_rfl) ?_
          refine W.no 1 100000 (by kernel_rfl) ?_
          refine W.yes 1 100000 (by kernel_rfl) ?_
          refine W.no 1 100000 (by kernel_rfl) ?_
          refine W.cond 1 100000 h650 (by kernel_rfl) (fun h650 => ?_) (fun h650 => ?_)
          ·
            refine W.yes 1 100000 (by kernel_rfl) ?_
            refine W.yes 1 100000 (by kernel_rfl) ?_
            refine W.yes 1 100000 (by kernel_rfl) ?_
            refine W.yes 1 100000 (by kernel_rfl) ?_
            refine W.yes 1 100000 (by kernel_rfl) ?_
            cases h650; exact W.retK 1 100000 K650 (by kernel_rfl)
          ·
            refine W.no 1 100000 (by kernel_rfl) ?_
            refine W.no 1 100000 (by kernel_rfl) ?_
            refine W.cond 1 100000 h650 (by kernel_rfl) (fun h650 => ?_) (fun h650 => ?_)
            ·
              refine W.yes 1 100000 (by kernel_rfl) ?_
              refine W.yes 1 100000 (by kernel_rfl) ?_
              refine W.cond 1 100000 h650 (by kernel_rfl) (fun h650 => ?_) (fun h650 => ?_)
              ·
                refine W.yes 1 100000 (by kernel_rfl) ?_
                refine W.yes 1 100000 (by kernel_rfl) ?_
                refine W.yes 1 100000 (by kernel_rfl) ?_
                refine W.yes 1 100000 (by kernel_rfl) ?_
                refine W.no 1 100000 (by kernel_rfl) ?_
                refine W.yes 1 100000 (by kernel_rfl) ?_
                refine W.no 1 100000 (by kernel_rfl) ?_
                refine W.yes 1 100000 (by kernel_rfl) ?_
                cases h650; exact W.retK 1 100000 K650 (by kernel_rfl)
              ·
                refine W.no 1 100000 (by kernel_rfl) ?_
                refine W.no 1 100000 (by kernel_rfl) ?_
                refine W.yes 1 100000 (by kernel_rfl) ?_
                refine W.no 1 100000 (by kernel_rfl) ?_
                refine W.no 1 100000 (by kernel_rfl) ?_
                refine W.yes 1 100000 (by kernel_rfl) ?_
                refine W.no 1 100000 (by kernel_rfl) ?_
                refine W.cond 1 100000 h650 (by kernel_rfl) (fun h650 => ?_) (fun h650 => ?_)
                ·
                  cases h650; exact W.retK 1 100000 K650 (by kernel_rfl)
                ·
                  cases h650; exact W.at 1 100000 [] [0, 3, 6] (by kernel_rfl) K650
            ·
              refine W.no 1 100000 (by kernel_rfl) ?_
              refine W.no 1 100000 (by kernel_rfl) ?_
              refine W.no 1 100000 (by kernel_rfl) ?_
              refine W.no 1 100000 (by kernel_rfl) ?_
              refine W.no 1 100000 (by kernel_rfl) ?_
              refine W.no 1 100000 (by kernel_rfl) ?_
              refine W.no 1 100000 (by kernel_rfl) ?_
              cases h650; exact W.at 1 100000 [] [0, 3, 6] (by kernel_rfl) K650
        ·
          refine W.no 1 100000 (by kernel_rfl) ?_
          refine W.no 1 100000 (by kernel_rfl) ?_
          refine W.no 1 100000 (by kernel_rfl) ?_
          refine W.no 1 100000 (by kernel_rfl) ?_
          refine W.no 1 100000 (by kernel_rfl) ?_
          refine W.no 1 100000 (by kernel_rfl) ?_
          refine W.no 1 100000 (by kernel_rfl) ?_
          refine W.no 1 100000 (by kernel_rfl) ?_
          refine W.no 1 100000 (by kernel_rfl) ?_
          refine W.cond 1 100000 h650 (by kernel_rfl) (fun h650 => ?_) (fun h650 => ?_)
          ·
            refine W.yes 1 100000 (by kernel_rfl) ?_
            refine W.yes 1 100000 (by kernel_rfl) ?_
            refine W.cond 1 100000 h650 (by kernel_rfl) (fun h650 => ?_) (fun h650 => ?_)
            ·
              refine W.yes 1 100000 (by kernel_rfl) ?_
              refine W.yes 1 100000 (by kernel_rfl) ?_
              refine W.yes 1 100000 (by kernel_rfl) ?_
              refine W.yes 1 100000 (by kernel_rfl) ?_
              refine W.no 1 100000 (by kernel_rfl) ?_
              refine W.yes 1 100000 (by kernel_rfl) ?_
              refine W.no 1 100000 (by kernel_rfl) ?_
              refine W.yes 1 100000 (by kernel_rfl) ?_
              cases h650; exact W.retK 1 100000 K650 (by kernel_rfl)
            ·
              refine W.no 1 100000 (by kernel_rfl) ?_
              refine W.no 1 100000 (by kernel_rfl) ?_
              refine W.yes 1 100000 (by kernel_rfl) ?_
              refine W.no 1 100000 (by kernel_rfl) ?_
              refine W.no 1 100000 (by kernel_rfl) ?_
              refine W.yes 1 100000 (by kernel_rfl) ?_
              refine W.no 1 100000 (by kernel_rfl) ?_
              refine W.cond 1 100000 h650 (by kernel_rfl) (fun h650 => ?_) (fun h650 => ?_)
              ·
                cases h650; exact W.retK 1 100000 K650 (by kernel_rfl)
              ·
                cases h650; exact W.at 1 100000 [] [0, 3, 6] (by kernel_rfl) K650
          ·
            refine W.no 1 100000 (by kernel_rfl) ?_
            refine W.no 1 100000 (by kernel_rfl) ?_
            refine W.no 1 100000 (by kernel_rfl) ?_
            refine W.no 1 100000 (by kernel_rfl) ?_
            refine W.no 1 100000 (by kernel_rfl) ?_
            refine W.no 1 100000 (by kernel_rfl) ?_
            refine W.no 1 100000 (by kernel_rfl) ?_
            cases h650; exact W.at 1 100000 [] [0, 3, 6] (by kernel_rfl) K650

theorem cellarerlaw09_DivsTrue_con {l_655 : List (List UInt8 × List UInt8 × List UInt8)} {p_656 : List UInt8} {by_657 : List UInt8} {r : Bool} (h : cellarerlaw09_DivsTrue l_655 p_656 by_657 = some r) : Con Go.Proofs.Tryd.prog 5 [AV.list (Ty.prod Ty.str (Ty.prod Ty.str Ty.str)) l_655 Bool.false, AV.str p_656, AV.str by_657] [] (cellarerlaw09_DivsTrue_res r) (cellarerlaw09_DivsTrue_out r) := by
  refine W.con (by kernel_rfl) ?_
  unfold cellarerlaw09_DivsTrue at h
  refine W.join (fun t => (Sum.elim (fun t_663 => r = (t_663)) (fun t_664 => Walk Go.Proofs.Tryd.prog 5 (Cfg.mk Mode.run (seqTodo Go.Proofs.Tryd.prog 5 1) (St.mk [AV.list (Ty.prod Ty.str (Ty.prod Ty.str Ty.str)) l_655 Bool.false, AV.str p_656, AV.str by_657, jj, jj, jj, jj, jj, jj, jj, jj, jj, jj, jj, jj, jj, jj, jj, jj, jj, jj, jj, jj, jj, jj, jj, jj, jj, jj, jj, jj, jj, jj, jj, jj, jj, jj, jj, jj, jj, jj, jj] [] (0 : Nat))) (cellarerlaw09_DivsTrue_res r) (cellarerlaw09_DivsTrue_out r))) t) h (fun t h => ?_) (fun t671 h671 K671 => ?_)
  ·
    rcases t with t_663 | t_664
    · replace h := W.inl (h)
      refine W.elimL (?_)
      exact (Option.some.inj h).symm
    · replace h := W.inr (h)
      refine W.elimR (?_)
      refine W.bind h fun a_665 ha_665 h => ?_
      refine W.call 0 100000 (by kernel_rfl) (divs_True_con ha_665) (by kernel_rfl) ?_
      refine W.bind h fun a_666 ha_666 h => ?_
      refine W.call 0 100000 (by kernel_rfl) (cellarerref09_True_con ha_666) (by kernel_rfl) ?_
      refine W.cond 0 100000 h (by kernel_rfl) (fun h => ?_) (fun h => ?_)
      ·
        refine W.yes 0 100000 (by kernel_rfl) ?_
        refine W.yes 0 100000 (by kernel_rfl) ?_
        refine W.bind h fun a_667 ha_667 h => ?_
        refine W.call 0 100000 (by kernel_rfl) (divs_From_con ha_667) (by kernel_rfl) ?_
        refine W.yes 0 100000 (by kernel_rfl) ?_
        refine W.yes 0 100000 (by kernel_rfl) ?_
        refine W.yes 0 100000 (by kernel_rfl) ?_
        refine W.bind h fun a_668 ha_668 h => ?_
        refine W.call 0 100000 (by kernel_rfl) (cellarerref09_From_con ha_668) (by kernel_rfl) ?_
        refine W.yes 0 100000 (by kernel_rfl) ?_
        refine W.yes 0 100000 (by kernel_rfl) ?_
        refine W.cond 0 100000 h (by kernel_rfl) (fun h => ?_) (fun h => ?_)
        ·
          refine W.bind h fun a_669 ha_669 h => ?_
          refine W.call 0 100000 (by kernel_rfl) (cellarerlaw09_awake_con ha_669) (by kernel_rfl) ?_
          refine W.yes 0 100000 (by kernel_rfl) ?_
          exact W.retT 0 100000 h (by kernel_rfl)
        ·
          refine W.no 0 100000 (by kernel_rfl) ?_
          exact W.retT 0 100000 h (by kernel_rfl)
      ·
        refine W.no 0 100000 (by kernel_rfl) ?_
        refine W.no 0 100000 (by kernel_rfl) ?_
        refine W.no 0 100000 (by kernel_rfl) ?_
        refine W.no 0 100000 (by kernel_rfl) ?_
        refine W.no 0 100000 (by kernel_rfl) ?_
        refine W.no 0 100000 (by kernel_rfl) ?_
        refine W.no 0 100000 (by kernel_rfl) ?_
        refine W.no 0 100000 (by kernel_rfl) ?_
        refine W.no 0 100000 (by kernel_rfl) ?_
        exact W.retT 0 100000 h (by kernel_rfl)
  · refine W.next 0 5 (by kernel_rfl) ?_
    refine W.bind h671 fun a_658 ha_658 h671 => ?_
    refine W.call 1 100000 (by kernel_rfl) (cellarerlaw09_Few_con ha_658) (by kernel_rfl) ?_
    refine W.cond 1 100000 h671 (by kernel_rfl) (fun h671 => ?_) (fun h671 => ?_)
    ·
      refine W.yes 1 100000 (by kernel_rfl) ?_
      refine W.yes 1 100000 (by kernel_rfl) ?_
      refine W.yes 1 100000 (by kernel_rfl) ?_
      refine W.yes 1 100000 (by kernel_rfl) ?_
      refine W.yes 1 100000 (by kernel_rfl) ?_
      refine W.yes 1 100000 (by kernel_rfl) ?_
      refine W.yes 1 100000 (by kernel_rfl) ?_
      refine W.yes 1 100000 (by kernel_rfl) ?_
      refine W.bind h671 fun a_659 ha_659 h671 => ?_
      refine W.call 1 100000 (by kernel_rfl) (cellarerlaw09_awake_con ha_659) (by kernel_rfl) ?_
      cases h671; exact W.retK 1 100000 K671 (by kernel_rfl)
    ·
      refine W.no 1 100000 (by kernel_rfl) ?_
      refine W.no 1 100000 (by kernel_rfl) ?_
      refine W.no 1 100000 (by kernel_rfl) ?_
      refine W.cond 1 100000 h671 (by kernel_rfl) (fun h671 => ?_) (fun h671 => ?_)
      ·
        refine W.yes 1 100000 (by kernel_rfl) ?_
        refine W.yes 1 100000 (by kernel_rfl) ?_
        refine W.yes 1 100000 (by kernel_rfl) ?_
        refine W.yes 1 100000 (by kernel_rfl) ?_
        refine W.bind h671 fun a_660 ha_660 h671 => ?_
        refine W.call 1 100000 (by kernel_rfl) (cellarerlaw09_awake_con ha_660) (by kernel_rfl) ?_
        cases h671; exact W.retK 1 100000 K671 (by kernel_rfl)
      ·
        refine W.no 1 100000 (by kernel_rfl) ?_
        refine W.no 1 100000 (by kernel_rfl) ?_
        refine W.no 1 100000 (by kernel_rfl) ?_
        refine W.cond 1 100000 h671 (by kernel_rfl) (fun h671 => ?_) (fun h671 => ?_)
        ·
          refine W.bind h671 fun a_661 ha_661 h671 => ?_
          refine W.call 1 100000 (by kernel_rfl) (cellarerlaw09_awake_con ha_661) (by kernel_rfl) ?_
          cases h671; exact W.retK 1 100000 K671 (by kernel_rfl)
        ·
          cases h671; exact W.at 1 100000 [] [0, 1, 2] (by kernel_rfl) K671

theorem cellarerlaw09_DivsApart_con {l_676 : List (List UInt8 × List UInt8 × List UInt8)} {p_677 : List UInt8} {q_678 : List UInt8} {r : Bool} (h : cellarerlaw09_DivsApart l_676 p_677 q_678 = some r) : Con Go.Proofs.Tryd.prog 6 [AV.list (Ty.prod Ty.str (Ty.prod Ty.str Ty.str)) l_676 Bool.false, AV.str p_677, AV.str q_678] [] (cellarerlaw09_DivsApart_res r) (cellarerlaw09_DivsApart_out r) := by
  refine W.con (by kernel_rfl) ?_
  unfold cellarerlaw09_DivsApart at h
  refine W.join (fun t => (Sum.elim (fun t_691 => r = (t_691)) (fun t_692 => Walk Go.Proofs.Tryd.prog 6 (Cfg.mk Mode.run (seqTodo Go.Proofs.Tryd.prog 6 1) (St.mk [AV.list (Ty.prod Ty.str (Ty.prod Ty.str Ty.str)) l_676 Bool.false, AV.str p_677, AV.str q_678, jj, jj, jj, jj, jj, jj, jj, jj, jj, jj, jj, jj, jj, jj, jj, jj, jj, jj, jj, jj, jj, jj, jj, jj, jj, jj, jj, jj, jj, jj, jj, jj, jj, jj, jj, jj, jj, jj, jj, jj, jj, jj, jj, jj, jj, jj, jj, jj, jj, jj, jj, jj, jj, jj, jj, jj, jj, jj, jj, jj, jj, jj, jj, jj, jj, jj, jj, jj, jj, jj] [] (0 : Nat))) (cellarerlaw09_DivsApart_res r) (cellarerlaw09_DivsApart_out r))) t) h (fun t h => ?_) (fun t699 h699 K699 => ?_)
  ·
    rcases t with t_691 | t_692
    · replace h := W.inl (h)
      refine W.elimL (?_)
      exact (Option.some.inj h).symm
    · replace h := W.inr (h)
      refine W.elimR (?_)
      refine W.bind h fun a_693 ha_693 h => ?_
      refine W.call 0 100000 (by kernel_rfl) (divs_True_con ha_693) (by kernel_rfl) ?_
      refine W.bind h fun a_694 ha_694 h => ?_
      refine W.call 0 100000 (by kernel_rfl) (divs_True_con ha_694) (by kernel_rfl) ?_
      refine W.cond 0 100000 h (by kernel_rfl) (fun h => ?_) (fun h => ?_)
      ·
        refine W.yes 0 100000 (by kernel_rfl) ?_
        refine W.yes 0 100000 (by kernel_rfl) ?_
        refine W.bind h fun a_695 ha_695 h => ?_
        refine W.call 0 100000 (by kernel_rfl) (divs_From_con ha_695) (by kernel_rfl) ?_
        refine W.yes 0 100000 (by kernel_rfl) ?_
        refine W.yes 0 100000 (by kernel_rfl) ?_
        refine W.yes 0 100000 (by kernel_rfl) ?_
        refine W.cond 0 100000 h (by kernel_rfl) (fun h => ?_) (fun h => ?_)
        ·
          refine W.yes 0 100000 (by kernel_rfl) ?_
          refine W.yes 0 100000 (by kernel_rfl) ?_
          refine W.bind h fun a_696 ha_696 h => ?_
          refine W.call 0 100000 (by kernel_rfl) (divs_From_con ha_696) (by kernel_rfl) ?_
          refine W.yes 0 100000 (by kernel_rfl) ?_
          refine W.yes 0 100000 (by kernel_rfl) ?_
          refine W.yes 0 100000 (by kernel_rfl) ?_
          refine W.cond 0 100000 h (by kernel_rfl) (fun h => ?_) (fun h => ?_)
          ·
            refine W.bind h fun a_697 ha_697 h => ?_
            refine W.call 0 100000 (by kernel_rfl) (cellarerlaw09_awake_con ha_697) (by kernel_rfl) ?_
            refine W.yes 0 100000 (by kernel_rfl) ?_
            exact W.retT 0 100000 h (by kernel_rfl)
          ·
            refine W.no 0 100000 (by kernel_rfl) ?_
            exact W.retT 0 100000 h (by kernel_rfl)
        ·
          refine W.no 0 100000 (by kernel_rfl) ?_
          refine W.no 0 100000 (by kernel_rfl) ?_
          refine W.no 0 100000 (by kernel_rfl) ?_
          refine W.no 0 100000 (by kernel_rfl) ?_
          refine W.no 0 100000 (by kernel_rfl) ?_
          refine W.no 0 100000 (by kernel_rfl) ?_
          refine W.no 0 100000 (by kernel_rfl) ?_
          exact W.retT 0 100000 h (by kernel_rfl)
      ·
        refine W.no 0 100000 (by kernel_rfl) ?_
        refine W.no 0 100000 (by kernel_rfl) ?_
        refine W.no 0 100000 (by kernel_rfl) ?_
        refine W.no 0 100000 (by kernel_rfl) ?_
        refine W.no 0 100000 (by kernel_rfl) ?_
        refine W.no 0 100000 (by kernel_rfl) ?_
        refine W.no 0 100000 (by kernel_rfl) ?_
        refine W.no 0 100000 (by kernel_rfl) ?_
        refine W.no 0 100000 (by kernel_rfl) ?_
        refine W.no 0 100000 (by kernel_rfl) ?_
        refine W.no 0 100000 (by kernel_rfl) ?_
        refine W.no 0 100000 (by kernel_rfl) ?_
        refine W.no 0 100000 (by kernel_rfl) ?_
        exact W.retT 0 100000 h (by kernel_rfl)
  · refine W.next 0 5 (by kernel_rfl) ?_
    refine W.bind h699 fun a_679 ha_679 h699 => ?_
    refine W.call 1 100000 (by kernel_rfl) (cellarerlaw09_Few_con ha_679) (by kernel_rfl) ?_
    refine W.cond 1 100000 h699 (by kernel_rfl) (fun h699 => ?_) (fun h699 => ?_)
    ·
      refine W.yes 1 100000 (by kernel_rfl) ?_
      refine W.yes 1 100000 (by kernel_rfl) ?_
      refine W.yes 1 100000 (by kernel_rfl) ?_
      refine W.yes 1 100000 (by kernel_rfl) ?_
      refine W.yes 1 100000 (by kernel_rfl) ?_
      refine W.yes 1 100000 (by kernel_rfl) ?_
      refine W.yes 1 100000 (by kernel_rfl) ?_
      refine W.yes 1 100000 (by kernel_rfl) ?_
      refine W.yes 1 100000 (by kernel_rfl) ?_
      refine W.yes 1 100000 (by kernel_rfl) ?_
      refine W.yes 1 100000 (by kernel_rfl) ?_
      refine W.yes 1 100000 (by kernel_rfl) ?_
      refine W.yes 1 100000 (by kernel_rfl) ?_
      refine W.yes 1 100000 (by kernel_rfl) ?_
      refine W.yes 1 100000 (by kernel_rfl) ?_
      refine W.yes 1 100000 (by kernel_rfl) ?_
      refine W.yes 1 100000 (by kernel_rfl) ?_
      refine W.yes 1 100000 (by kernel_rfl) ?_
      refine W.yes 1 100000 (by kernel_rfl) ?_
      refine W.yes 1 100000 (by kernel_rfl) ?_
      refine W.yes 1 100000 (by kernel_rfl) ?_
      refine W.yes 1 100000 (by kernel_rfl) ?_
      refine W.yes 1 100000 (by kernel_rfl) ?_
      refine W.yes 1 100000 (by kernel_rfl) ?_
      refine W.yes 1 100000 (by kernel_rfl) ?_
      refine W.yes 1 100000 (by kernel_rfl) ?_
      refine W.yes 1 100000 (by kernel_rfl) ?_
      refine W.yes 1 100000 (by kernel_rfl) ?_
      refine W.bind h699 fun a_680 ha_680 h699 => ?_
      refine W.call 1 100000 (by kernel_rfl) (cellarerlaw09_awake_con ha_680) (by kernel_rfl) ?_
      cases h699; exact W.retK 1 100000 K699 (by kernel_rfl)
    ·
      refine W.no 1 100000 (by kernel_rfl) ?_
      refine W.no 1 100000 (by kernel_rfl) ?_
      refine W.no 1 100000 (by kernel_rfl) ?_
      refine W.cond 1 100000 h699 (by kernel_rfl) (fun h699 => ?_) (fun h699 => ?_)
      ·
        refine W.yes 1 100000 (by kernel_rfl) ?_
        refine W.yes 1 100000 (by kernel_rfl) ?_
        refine W.yes 1 100000 (by kernel_rfl) ?_
        refine W.yes 1 100000 (by kernel_rfl) ?_
        refine W.yes 1 100000 (by kernel_rfl) ?_
        refine W.yes 1 100000 (by kernel_rfl) ?_
        refine W.yes 1 100000 (by kernel_rfl) ?_
        refine W.yes 1 100000 (by kernel_rfl) ?_
        refine W.yes 1 100000 (by kernel_rfl) ?_
        refine W.yes 1 100000 (by kernel_rfl) ?_
        refine W.yes 1 100000 (by kernel_rfl) ?_
        refine W.yes 1 100000 (by kernel_rfl) ?_
        refine W.yes 1 100000 (by kernel_rfl) ?_
        refine W.yes 1 100000 (by kernel_rfl) ?_
        refine W.yes 1 100000 (by kernel_rfl) ?_
        refine W.yes 1 100000 (by kernel_rfl) ?_
        refine W.yes 1 100000 (by kernel_rfl) ?_
        refine W.yes 1 100000 (by kernel_rfl) ?_
        refine W.yes 1 100000 (by kernel_rfl) ?_
        refine W.yes 1 100000 (by kernel_rfl) ?_
        refine W.yes 1 100000 (by kernel_rfl) ?_
        refine W.yes 1 100000 (by kernel_rfl) ?_
        refine W.yes 1 100000 (by kernel_rfl) ?_
        refine W.yes 1 100000 (by kernel_rfl) ?_
        refine W.bind h699 fun a_681 ha_681 h699 => ?_
        refine W.call 1 100000 (by kernel_rfl) (cellarerlaw09_awake_con ha_681) (by kernel_rfl) ?_
        cases h699; exact W.retK 1 100000 K699 (by kernel_rfl)
      ·
        refine W.no 1 100000 (by kernel_rfl) ?_
        refine W.no 1 100000 (by kernel_rfl) ?_
        refine W.no 1 100000 (by kernel_rfl) ?_
        refine W.cond 1 100000 h699 (by kernel_rfl) (fun h699 => ?_) (fun h699 => ?_)
        ·
          refine W.yes 1 100000 (by kernel_rfl) ?_
          refine W.yes 1 100000 (by kernel_rfl) ?_
          refine W.yes 1 100000 (by kernel_rfl) ?_
          refine W.yes 1 100000 (by kernel_rfl) ?_
          refine W.yes 1 100000 (by kernel_rfl) ?_
          refine W.yes 1 100000 (by kernel_rfl) ?_
          refine W.yes 1 100000 (by kernel_rfl) ?_
          refine W.yes 1 100000 (by kernel_rfl) ?_
          refine W.yes 1 100000 (by kernel_rfl) ?_
          refine W.yes 1 100000 (by kernel_rfl) ?_
          refine W.yes 1 100000 (by kernel_rfl) ?_
          refine W.yes 1 100000 (by kernel_rfl) ?_
          refine W.yes 1 100000 (by kernel_rfl) ?_
          refine W.yes 1 100000 (by kernel_rfl) ?_
          refine W.yes 1 100000 (by kernel_rfl) ?_
          refine W.yes 1 100000 (by kernel_rfl) ?_
          refine W.yes 1 100000 (by kernel_rfl) ?_
          refine W.yes 1 100000 (by kernel_rfl) ?_
          refine W.yes 1 100000 (by kernel_rfl) ?_
          refine W.yes 1 100000 (by kernel_rfl) ?_
          refine W.bind h699 fun a_682 ha_682 h699 => ?_
          refine W.call 1 100000 (by kernel_rfl) (cellarerlaw09_awake_con ha_682) (by kernel_rfl) ?_
          cases h699; exact W.retK 1 100000 K699 (by kernel_rfl)
        ·
          refine W.no 1 100000 (by kernel_rfl) ?_
          refine W.bind h699 fun a_683 ha_683 h699 => ?_
          refine W.call 1 100000 (by kernel_rfl) (divs_Check_con ha_683) (by kernel_rfl) ?_
          refine W.no 1 100000 (by kernel_rfl) ?_
          refine W.no 1 100000 (by kernel_rfl) ?_
          refine W.cond 1 100000 h699 (by kernel_rfl) (fun h699 => ?_) (fun h699 => ?_)
          ·
            refine W.yes 1 100000 (by kernel_rfl) ?_
            refine W.yes 1 100000 (by kernel_rfl) ?_
            refine W.yes 1 100000 (by kernel_rfl) ?_
            refine W.yes 1 100000 (by kernel_rfl) ?_
            refine W.yes 1 100000 (by kernel_rfl) ?_
            refine W.yes 1 100000 (by kernel_rfl) ?_
            refine W.yes 1 100000 (by kernel_rfl) ?_
            refine W.yes 1 100000 (by kernel_rfl) ?_
            refine W.yes 1 100000 (by kernel_rfl) ?_
            refine W.yes 1 100000 (by kernel_rfl) ?_
            refine W.yes 1 100000 (by kernel_rfl) ?_
            refine W.yes 1 100000 (by kernel_rfl) ?_
            refine W.yes 1 100000 (by kernel_rfl) ?_
            refine W.yes 1 100000 (by kernel_rfl) ?_
            refine W.yes 1 100000 (by kernel_rfl) ?_
            refine W.yes 1 100000 (by kernel_rfl) ?_
            refine W.bind h699 fun a_684 ha_684 h699 => ?_
            refine W.call 1 100000 (by kernel_rfl) (cellarerlaw09_awake_con ha_684) (by kernel_rfl) ?_
            cases h699; exact W.retK 1 100000 K699 (by kernel_rfl)
          ·
            refine W.no 1 100000 (by kernel_rfl) ?_
            refine W.no 1 100000 (by kernel_rfl) ?_
            refine W.bind h699 fun a_685 ha_685 h699 => ?_
            refine W.call 1 100000 (by kernel_rfl) (divs_From_con ha_685) (by kernel_rfl) ?_
            refine W.no 1 100000 (by kernel_rfl) ?_
            refine W.no 1 100000 (by kernel_rfl) ?_
            refine W.no 1 100000 (by kernel_rfl) ?_
            refine W.cond 1 100000 h699 (by kernel_rfl) (fun h699 => ?_) (fun h699 => ?_)
            ·
              refine W.yes 1 100000 (by kernel_rfl) ?_
              refine W.yes 1 100000 (by kernel_rfl) ?_
              refine W.yes 1 100000 (by kernel_rfl) ?_
              refine W.yes 1 100000 (by kernel_rfl) ?_
              refine W.yes 1 100000 (by kernel_rfl) ?_
              refine W.yes 1 100000 (by kernel_rfl) ?_
              refine W.yes 1 100000 (by kernel_rfl) ?_
              refine W.yes 1 100000 (by kernel_rfl) ?_
              refine W.yes 1 100000 (by kernel_rfl) ?_
              refine W.yes 1 100000 (by kernel_rfl) ?_
              refine W.bind h699 fun a_686 ha_686 h699 => ?_
              refine W.call 1 100000 (by kernel_rfl) (cellarerlaw09_awake_con ha_686) (by kernel_rfl) ?_
              cases h699; exact W.retK 1 100000 K699 (by kernel_rfl)
            ·
              refine W.no 1 100000 (by kernel_rfl) ?_
              refine W.no 1 100000 (by kernel_rfl) ?_
              refine W.bind h699 fun a_687 ha_687 h699 => ?_
              refine W.call 1 100000 (by kernel_rfl) (divs_From_con ha_687) (by kernel_rfl) ?_
              refine W.no 1 100000 (by kernel_rfl) ?_
              refine W.no 1 100000 (by kernel_rfl) ?_
              refine W.no 1 100000 (by kernel_rfl) ?_
              refine W.cond 1 100000 h699 (by kernel_rfl) (fun h699 => ?_) (fun h699 => ?_)
              ·
                refine W.yes 1 100000 (by kernel_rfl) ?_
                refine W.yes 1 100000 (by kernel_rfl) ?_
                refine W.yes 1 100000 (by kernel_rfl) ?_
                refine W.yes 1 100000 (by kernel_rfl) ?_
                refine W.bind h699 fun a_688 ha_688 h699 => ?_
                refine W.call 1 100000 (by kernel_rfl) (cellarerlaw09_awake_con ha_688) (by kernel_rfl) ?_
                cases h699; exact W.retK 1 100000 K699 (by kernel_rfl)
              ·
                refine W.no 1 100000 (by kernel_rfl) ?_
                refine W.no 1 100000 (by kernel_rfl) ?_
                refine W.no 1 100000 (by kernel_rfl) ?_
                refine W.cond 1 100000 h699 (by kernel_rfl) (fun h699 => ?_) (fun h699 => ?_)
                ·
                  refine W.bind h699 fun a_689 ha_689 h699 => ?_
                  refine W.call 1 100000 (by kernel_rfl) (cellarerlaw09_awake_con ha_689) (by kernel_rfl) ?_
                  cases h699; exact W.retK 1 100000 K699 (by kernel_rfl)
                ·
                  cases h699; exact W.at 1 100000 [] [0, 1, 2] (by kernel_rfl) K699

theorem api_Divert__33_con {s_707 : List (List UInt8 × List UInt8 × List UInt8)} {r : List (List UInt8 × List UInt8 × List UInt8)} (h : api_Divert__33 s_707 = some r) : Con Go.Proofs.Tryd.prog 33 [AV.list (Ty.prod Ty.str (Ty.prod Ty.str Ty.str)) s_707 Bool.false] [] (api_Divert__33_res r) (api_Divert__33_out r) := by
  refine W.con (by kernel_rfl) ?_
  unfold api_Divert__33 at h
  refine W.mayb 0 100000 h (by kernel_rfl) (fun h => ?_) (fun h => ?_)
  ·
    exact W.retT 0 100000 h (by kernel_rfl)
  ·
    refine W.needT 0 100000 h (by kernel_rfl) (fun h => ?_)
    exact W.retT 0 100000 h (by kernel_rfl)

theorem divs_Put_1_con {y_722 : List UInt8} {y_723 : List UInt8} {y_724 : List UInt8} {o0_725 : List UInt8} {o0_726 : List UInt8} {o0_727 : List UInt8} {r : Bool × List UInt8 × List UInt8 × List UInt8} (h : divs_Put_1 y_722 y_723 y_724 o0_725 o0_726 o0_727 = some r) : Con Go.Proofs.Tryd.prog 35 [AV.agg [AV.str y_722, AV.str y_723, AV.str y_724], AV.ptr (0 : Nat) (0 : Nat)] [AO.box [AV.str o0_725, AV.str o0_726, AV.str o0_727]] (divs_Put_1_res r) (divs_Put_1_out r) := by
  refine W.con (by kernel_rfl) ?_
  unfold divs_Put_1 at h
  exact W.retT 0 100000 h (by kernel_rfl)

theorem api_Divert__v2_con {s_712 : List (List UInt8 × List UInt8 × List UInt8)} {o0_713 : List UInt8} {o0_714 : List UInt8} {o0_715 : List UInt8} {r : Int × List UInt8 × List UInt8 × List UInt8} (h : api_Divert__v2 s_712 o0_713 o0_714 o0_715 = some r) : Con Go.Proofs.Tryd.prog 34 [AV.list (Ty.prod Ty.str (Ty.prod Ty.str Ty.str)) s_712 Bool.false, AV.func (Go.Fn.func (35 : Nat)) [] [AV.ptr (0 : Nat) (0 : Nat)]] [AO.box [AV.str o0_713, AV.str o0_714, AV.str o0_715]] (api_Divert__v2_res r) (api_Divert__v2_out r) := by
  refine W.con (by kernel_rfl) ?_
  unfold api_Divert__v2 at h
  refine W.at 0 100000 [] [0, 1, 7, 8] (c' := (fun (s_750 : Int × List UInt8 × List UInt8 × List UInt8) => (Cfg.mk Mode.run (headTodo Go.Proofs.Tryd.prog 34 0) (St.mk [AV.list (Ty.prod Ty.str (Ty.prod Ty.str Ty.str)) s_712 Bool.false, AV.func (Go.Fn.func (35 : Nat)) [] [AV.ptr (0 : Nat) (0 : Nat)], jj, jj, jj, jj, jj, AV.int IntKind.i64 (↑(List.length s_712) : Int), AV.int IntKind.i64 (Prod.fst s_750), jj, jj, jj, jj, jj, jj, jj, jj, jj, jj] [AO.box [AV.str (Prod.fst (Prod.snd s_750)), AV.str (Prod.fst (Prod.snd (Prod.snd s_750))), AV.str (Prod.snd (Prod.snd (Prod.snd s_750)))]] (1 : Nat)))) ((0 : Int), o0_713, o0_714, o0_715)) (by kernel_rfl) ?_
  refine W.loop (fun (s_750 : Int × List UInt8 × List UInt8 × List UInt8) => (Cfg.mk Mode.run (headTodo Go.Proofs.Tryd.prog 34 0) (St.mk [AV.list (Ty.prod Ty.str (Ty.prod Ty.str Ty.str)) s_712 Bool.false, AV.func (Go.Fn.func (35 : Nat)) [] [AV.ptr (0 : Nat) (0 : Nat)], jj, jj, jj, jj, jj, AV.int IntKind.i64 (↑(List.length s_712) : Int), AV.int IntKind.i64 (Prod.fst s_750), jj, jj, jj, jj, jj, jj, jj, jj, jj, jj] [AO.box [AV.str (Prod.fst (Prod.snd s_750)), AV.str (Prod.fst (Prod.snd (Prod.snd s_750))), AV.str (Prod.snd (Prod.snd (Prod.snd s_750)))]] (1 : Nat)))) (fun t => (Sum.elim (fun t_738 => r = (Prod.fst t_738, Prod.fst (Prod.snd t_738), Prod.fst (Prod.snd (Prod.snd t_738)), Prod.snd (Prod.snd (Prod.snd t_738)))) (fun t_742 => Walk Go.Proofs.Tryd.prog 34 (Cfg.mk Mode.run ((headTodo Go.Proofs.Tryd.prog 34 0).drop 3) (St.mk [jj, jj, jj, jj, jj, jj, jj, jj, jj, jj, jj, jj, jj, jj, jj, jj, jj, jj, jj] [AO.box [AV.str (Prod.fst t_742), AV.str (Prod.fst (Prod.snd t_742)), AV.str (Prod.snd (Prod.snd t_742))]] (1 : Nat))) (api_Divert__v2_res r) (api_Divert__v2_out r))) t) h (fun t h => ?_) (fun s_750 x744 h744 K744 => ?_)
  ·
    rcases t with t_738 | t_742
    · replace h := W.inl (h)
      refine W.elimL (?_)
      exact (Option.some.inj h).symm
    · replace h := W.inr (h)
      refine W.elimR (?_)
      exact W.retT 0 100000 h (by kernel_rfl)
  · unfold api_Divert__v2_b0 at h744
    refine W.cond 2 100000 h744 (by kernel_rfl) (fun h744 => ?_) (fun h744 => ?_)
    ·
      refine W.needT 2 100000 h744 (by kernel_rfl) (fun h744 => ?_)
      refine W.bind h744 fun a_733 ha_733 h744 => ?_
      refine W.call 2 100000 (by kernel_rfl) (divs_Put_1_con ha_733) (by kernel_rfl) ?_
      refine W.cond 2 100000 h744 (by kernel_rfl) (fun h744 => ?_) (fun h744 => ?_)
      ·
        cases h744; exact W.retK 2 100000 K744 (by kernel_rfl)
      ·
        cases h744; exact W.at 2 100000 [] [0, 1, 7, 8] (by kernel_rfl) K744
    ·
      cases h744; exact W.at 2 100000 [] [] (by kernel_rfl) K744

theorem divs_Put_con {l_703 : List (List UInt8 × List UInt8 × List UInt8)} {x_704 : List UInt8} {x_705 : List UInt8} {x_706 : List UInt8} {r : List (List UInt8 × List UInt8 × List UInt8)} (h : divs_Put l_703 x_704 x_705 x_706 = some r) : Con Go.Proofs.Tryd.prog 21 [AV.list (Ty.prod Ty.str (Ty.prod Ty.str Ty.str)) l_703 Bool.false, AV.agg [AV.str x_704, AV.str x_705, AV.str x_706]] [] (divs_Put_res r) (divs_Put_out r) := by
  refine W.con (by kernel_rfl) ?_
  unfold divs_Put at h
  refine W.bind h fun a_710 ha_710 h => ?_
  refine W.call 0 100000 (by kernel_rfl) (api_Divert__33_con ha_710) (by kernel_rfl) ?_
  refine W.bind h fun a_711 ha_711 h => ?_
  refine W.call 0 100000 (by kernel_rfl) (divs_Find_con ha_711) (by kernel_rfl) ?_
  refine W.cond 0 100000 h (by kernel_rfl) (fun h => ?_) (fun h => ?_)
  ·
    refine W.needT 0 100000 h (by kernel_rfl) (fun h => ?_)
    refine W.needT 0 100000 h (by kernel_rfl) (fun h => ?_)
    exact W.retT 0 100000 h (by kernel_rfl)
  ·
    refine W.bind h fun a_751 ha_751 h => ?_
    refine W.call 0 100000 (by kernel_rfl) (api_Divert__v2_con ha_751) (by kernel_rfl) ?_
    refine W.cond 0 100000 h (by kernel_rfl) (fun h => ?_) (fun h => ?_)
    ·
      refine W.bind h fun a_752 ha_752 h => ?_
      refine W.call 0 100000 (by kernel_rfl) (api_Divert__36_con ha_752) (by kernel_rfl) ?_
      exact W.retT 0 100000 h (by kernel_rfl)
    ·
      refine W.bind h fun a_753 ha_753 h => ?_
      refine W.call 0 100000 (by kernel_rfl) (api_Divert__36_con ha_753) (by kernel_rfl) ?_
      exact W.retT 0 100000 h (by kernel_rfl)

end Go.Cellar
