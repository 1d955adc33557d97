/- What the program's functions come to: printed by a program, checked by Lean. No condition. -/
import Derived.Test.YtjdjmbogopadaaaGreatDoorFun12
import Derived.Test.YtjdjmbogopadaaaGreatDoorIns12
set_option maxRecDepth 4000
set_option synthInstance.maxHeartbeats 2000000
set_option synthInstance.maxSize 100000
set_option linter.unusedVariables false
namespace Go.Cellar
open Go

theorem path_Name_con {s_2 : List UInt8} {r : Bool} (h : path_Name s_2 = some r) : Con Go.Proofs.Tryz.prog 34 [AV.str s_2] [] (path_Name_res r) (path_Name_out r) := by
  refine W.con (by kernel_rfl) ?_
  unfold path_Name at h
  refine W.join (fun t => (Sum.elim (fun t_3 => r = (Bool.false)) (fun t_4 => Walk Go.Proofs.Tryz.prog 34 (Cfg.mk Mode.run (seqTodo Go.Proofs.Tryz.prog 34 1) (St.mk [AV.str s_2, jj, jj, jj, jj, jj, jj, jj, jj, jj, jj, jj, jj, jj, jj, jj, jj, jj, jj, jj, jj, jj, jj, jj, jj, jj, jj, jj, jj, jj, jj, jj, jj, jj, jj, jj, jj, jj, jj, jj, jj, jj, jj, jj, jj, jj, jj, jj, jj, jj, jj, jj, jj, jj, jj] [] (0 : Nat))) (path_Name_res r) (path_Name_out r))) t) h (fun t h => ?_) (fun t15 h15 K15 => ?_)
  ·
    rcases t with t_3 | t_4
    · replace h := W.inl (h)
      refine W.elimL (?_)
      exact (Option.some.inj h).symm
    · replace h := W.inr (h)
      refine W.elimR (?_)
      refine W.at 0 100000 [] [0, 15, 16] (c' := (fun (s_18 : Int) => (Cfg.mk Mode.run (headTodo Go.Proofs.Tryz.prog 34 0) (St.mk [AV.str s_2, jj, jj, jj, jj, jj, jj, jj, jj, jj, jj, jj, jj, jj, jj, AV.int IntKind.i64 (↑(List.length s_2) : Int), AV.int IntKind.i64 s_18, jj, jj, jj, jj, jj, jj, jj, jj, jj, jj, jj, jj, jj, jj, jj, jj, jj, jj, jj, jj, jj, jj, jj, jj, jj, jj, jj, jj, jj, jj, jj, jj, jj, jj, jj, jj, jj, jj] [] (0 : Nat)))) ((0 : Int))) (by kernel_rfl) ?_
      refine W.loop (fun (s_18 : Int) => (Cfg.mk Mode.run (headTodo Go.Proofs.Tryz.prog 34 0) (St.mk [AV.str s_2, jj, jj, jj, jj, jj, jj, jj, jj, jj, jj, jj, jj, jj, jj, AV.int IntKind.i64 (↑(List.length s_2) : Int), AV.int IntKind.i64 s_18, jj, jj, jj, jj, jj, jj, jj, jj, jj, jj, jj, jj, jj, jj, jj, jj, jj, jj, jj, jj, jj, jj, jj, jj, jj, jj, jj, jj, jj, jj, jj, jj, jj, jj, jj, jj, jj, jj] [] (0 : Nat)))) (fun t => (Sum.elim (fun t_11 => r = (Bool.false)) (fun t_12 => Walk Go.Proofs.Tryz.prog 34 (Cfg.mk Mode.run ((headTodo Go.Proofs.Tryz.prog 34 0).drop 3) (St.mk [jj, jj, jj, jj, jj, jj, jj, jj, jj, jj, jj, jj, jj, jj, jj, jj, jj, jj, jj, jj, jj, jj, jj, jj, jj, jj, jj, jj, jj, jj, jj, jj, jj, jj, jj, jj, jj, jj, jj, jj, jj, jj, jj, jj, jj, jj, jj, jj, jj, jj, jj, jj, jj, jj, jj] [] (0 : Nat))) (path_Name_res r) (path_Name_out r))) t) h (fun t h => ?_) (fun s_18 x14 h14 K14 => ?_)
      ·
        rcases t with t_11 | t_12
        · replace h := W.inl (h)
          refine W.elimL (?_)
          exact (Option.some.inj h).symm
        · replace h := W.inr (h)
          refine W.elimR (?_)
          exact W.retT 0 100000 h (by kernel_rfl)
      · unfold path_Name_b0 at h14
        refine W.cond 2 100000 h14 (by kernel_rfl) (fun h14 => ?_) (fun h14 => ?_)
        ·
          refine W.needT 2 100000 h14 (by kernel_rfl) (fun h14 => ?_)
          refine W.join (fun t_9 => Walk Go.Proofs.Tryz.prog 34 (Cfg.mk Mode.run (seqTodo Go.Proofs.Tryz.prog 34 11) (St.mk [AV.str s_2, jj, jj, AV.int IntKind.i64 s_18, AV.int IntKind.u8 (↑(UInt8.toNat (List.getD s_2 (Int.toNat s_18) (0 : UInt8))) : Int), AV.bool t_9, jj, jj, jj, jj, jj, jj, jj, jj, jj, AV.int IntKind.i64 (↑(List.length s_2) : Int), AV.int IntKind.i64 s_18, jj, jj, jj, jj, jj, jj, jj, jj, jj, jj, jj, jj, jj, jj, jj, jj, jj, jj, jj, jj, jj, jj, jj, jj, jj, jj, jj, jj, jj, jj, jj, jj, jj, jj, jj, jj, jj, jj] [] (0 : Nat))) (path_Name_res r) (path_Name_out r)) h14 (fun t_9 h14 => ?_) (fun t11 h11 K11 => ?_)
          ·
            refine W.cond 2 100000 h14 (by kernel_rfl) (fun h14 => ?_) (fun h14 => ?_)
            ·
              refine W.yes 2 100000 (by kernel_rfl) ?_
              refine W.yes 2 100000 (by kernel_rfl) ?_
              refine W.cond 2 100000 h14 (by kernel_rfl) (fun h14 => ?_) (fun h14 => ?_)
              ·
                refine W.yes 2 100000 (by kernel_rfl) ?_
                refine W.yes 2 100000 (by kernel_rfl) ?_
                refine W.yes 2 100000 (by kernel_rfl) ?_
                refine W.yes 2 100000 (by kernel_rfl) ?_
                refine W.yes 2 100000 (by kernel_rfl) ?_
                refine W.yes 2 100000 (by kernel_rfl) ?_
                refine W.yes 2 100000 (by kernel_rfl) ?_
                refine W.yes 2 100000 (by kernel_rfl) ?_
                refine W.yes 2 100000 (by kernel_rfl) ?_
                cases h14; exact W.retK 2 100000 K14 (by kernel_rfl)
              ·
                refine W.no 2 100000 (by kernel_rfl) ?_
                refine W.no 2 100000 (by kernel_rfl) ?_
                refine W.cond 2 100000 h14 (by kernel_rfl) (fun h14 => ?_) (fun h14 => ?_)
                ·
                  refine W.yes 2 100000 (by kernel_rfl) ?_
                  refine W.no 2 100000 (by kernel_rfl) ?_
                  refine W.yes 2 100000 (by kernel_rfl) ?_
                  refine W.no 2 100000 (by kernel_rfl) ?_
                  refine W.cond 2 100000 h14 (by kernel_rfl) (fun h14 => ?_) (fun h14 => ?_)
                  ·
                    refine W.yes 2 100000 (by kernel_rfl) ?_
                    refine W.no 2 100000 (by kernel_rfl) ?_
                    refine W.yes 2 100000 (by kernel_rfl) ?_
                    refine W.yes 2 100000 (by kernel_rfl) ?_
                    refine W.no 2 100000 (by kernel_rfl) ?_
                    refine W.yes 2 100000 (by kernel_rfl) ?_
                    refine W.cond 2 100000 h14 (by kernel_rfl) (fun h14 => ?_) (fun h14 => ?_)
                    ·
                      cases h14; exact W.retK 2 100000 K14 (by kernel_rfl)
                    ·
                      cases h14; exact W.at 2 100000 [] [0, 15, 16] (by kernel_rfl) K14
                  ·
                    refine W.no 2 100000 (by kernel_rfl) ?_
                    refine W.no 2 100000 (by kernel_rfl) ?_
                    refine W.no 2 100000 (by kernel_rfl) ?_
                    refine W.yes 2 100000 (by kernel_rfl) ?_
                    refine W.no 2 100000 (by kernel_rfl) ?_
                    refine W.yes 2 100000 (by kernel_rfl) ?_
                    refine W.no 2 100000 (by kernel_rfl) ?_
                    cases h14; exact W.at 2 100000 [] [0, 15, 16] (by kernel_rfl) K14
                ·
                  refine W.no 2 100000 (by kernel_rfl) ?_
                  refine W.no 2 100000 (by kernel_rfl) ?_
                  refine W.no 2 100000 (by kernel_rfl) ?_
                  refine W.no 2 100000 (by kernel_rfl) ?_
                  refine W.no 2 100000 (by kernel_rfl) ?_
                  refine W.no 2 100000 (by kernel_rfl) ?_
                  refine W.no 2 100000 (by kernel_rfl) ?_
                  refine W.no 2 100000 (by kernel_rfl) ?_
                  refine W.yes 2 100000 (by kernel_rfl) ?_
                  refine W.no 2 100000 (by kernel_rfl) ?_
                  refine W.yes 2 100000 (by kernel_rfl) ?_
                  refine W.no 2 100000 (by kernel_rfl) ?_
                  cases h14; exact W.at 2 100000 [] [0, 15, 16] (by kernel_rfl) K14
            ·
              refine W.no 2 100000 (by kernel_rfl) ?_
              refine W.no 2 100000 (by kernel_rfl) ?_
              refine W.no 2 100000 (by kernel_rfl) ?_
              refine W.no 2 100000 (by kernel_rfl) ?_
              refine W.no 2 100000 (by kernel_rfl) ?_
              cases h14; exact W.at 2 100000 [] [0, 15, 16] (by kernel_rfl) K14
          · refine W.next 2 3 (by kernel_rfl) ?_
            refine W.cond 6 100000 h11 (by kernel_rfl) (fun h11 => ?_) (fun h11 => ?_)
            ·
              refine W.yes 6 100000 (by kernel_rfl) ?_
              refine W.yes 6 100000 (by kernel_rfl) ?_
              refine W.cond 6 100000 h11 (by kernel_rfl) (fun h11 => ?_) (fun h11 => ?_)
              ·
                refine W.yes 6 100000 (by kernel_rfl) ?_
                refine W.yes 6 100000 (by kernel_rfl) ?_
                refine W.yes 6 100000 (by kernel_rfl) ?_
                refine W.yes 6 100000 (by kernel_rfl) ?_
                cases h11; exact W.at 6 100000 [] [0, 3, 4, 5, 15, 16] (by kernel_rfl) K11
              ·
                refine W.no 6 100000 (by kernel_rfl) ?_
                refine W.no 6 100000 (by kernel_rfl) ?_
                refine W.cond 6 100000 h11 (by kernel_rfl) (fun h11 => ?_) (fun h11 => ?_)
                ·
                  refine W.yes 6 100000 (by kernel_rfl) ?_
                  refine W.no 6 100000 (by kernel_rfl) ?_
                  refine W.yes 6 100000 (by kernel_rfl) ?_
                  refine W.no 6 100000 (by kernel_rfl) ?_
                  cases h11; exact W.at 6 100000 [] [0, 3, 4, 5, 15, 16] (by kernel_rfl) K11
                ·
                  refine W.no 6 100000 (by kernel_rfl) ?_
                  refine W.no 6 100000 (by kernel_rfl) ?_
                  refine W.no 6 100000 (by kernel_rfl) ?_
                  refine W.no 6 100000 (by kernel_rfl) ?_
                  cases h11; exact W.at 6 100000 [] [0, 3, 4, 5, 15, 16] (by kernel_rfl) K11
            ·
              refine W.no 6 100000 (by kernel_rfl) ?_
              refine W.no 6 100000 (by kernel_rfl) ?_
              refine W.no 6 100000 (by kernel_rfl) ?_
              refine W.no 6 100000 (by kernel_rfl) ?_
              refine W.no 6 100000 (by kernel_rfl) ?_
              refine W.cond 6 100000 h11 (by kernel_rfl) (fun h11 => ?_) (fun h11 => ?_)
              ·
                refine W.yes 6 100000 (by kernel_rfl) ?_
                refine W.no 6 100000 (by kernel_rfl) ?_
                refine W.yes 6 100000 (by kernel_rfl) ?_
                refine W.no 6 100000 (by kernel_rfl) ?_
                cases h11; exact W.at 6 100000 [] [0, 3, 4, 5, 15, 16] (by kernel_rfl) K11
              ·
                refine W.no 6 100000 (by kernel_rfl) ?_
                refine W.no 6 100000 (by kernel_rfl) ?_
                refine W.no 6 100000 (by kernel_rfl) ?_
                refine W.no 6 100000 (by kernel_rfl) ?_
                cases h11; exact W.at 6 100000 [] [0, 3, 4, 5, 15, 16] (by kernel_rfl) K11
        ·
          cases h14; exact W.at 2 100000 [] [] (by kernel_rfl) K14
  · refine W.next 0 5 (by kernel_rfl) ?_
    refine W.cond 1 100000 h15 (by kernel_rfl) (fun h15 => ?_) (fun h15 => ?_)
    ·
      refine W.yes 1 100000 (by kernel_rfl) ?_
      refine W.yes 1 100000 (by kernel_rfl) ?_
      refine W.yes 1 100000 (by kernel_rfl) ?_
      refine W.yes 1 100000 (by kernel_rfl) ?_
      cases h15; exact W.retK 1 100000 K15 (by kernel_rfl)
    ·
      refine W.no 1 100000 (by kernel_rfl) ?_
      refine W.no 1 100000 (by kernel_rfl) ?_
      refine W.no 1 100000 (by kernel_rfl) ?_
      refine W.cond 1 100000 h15 (by kernel_rfl) (fun h15 => ?_) (fun h15 => ?_)
      ·
        cases h15; exact W.retK 1 100000 K15 (by kernel_rfl)
      ·
        cases h15; exact W.at 1 100000 [] [0] (by kernel_rfl) K15

theorem stringslite_HasPrefix_con {s_30 : List UInt8} {prefix_31 : List UInt8} {r : Bool} (h : stringslite_HasPrefix s_30 prefix_31 = some r) : Con Go.Proofs.Tryz.prog 104 [AV.str s_30, AV.str prefix_31] [] (stringslite_HasPrefix_res r) (stringslite_HasPrefix_out r) := by
  refine W.con (by kernel_rfl) ?_
  unfold stringslite_HasPrefix at h
  refine W.cond 0 100000 h (by kernel_rfl) (fun h => ?_) (fun h => ?_)
  ·
    refine W.yes 0 100000 (by kernel_rfl) ?_
    refine W.yes 0 100000 (by kernel_rfl) ?_
    refine W.yes 0 100000 (by kernel_rfl) ?_
    refine W.needT 0 100000 h (by kernel_rfl) (fun h => ?_)
    refine W.yes 0 100000 (by kernel_rfl) ?_
    refine W.yes 0 100000 (by kernel_rfl) ?_
    refine W.yes 0 100000 (by kernel_rfl) ?_
    exact W.retT 0 100000 h (by kernel_rfl)
  ·
    refine W.no 0 100000 (by kernel_rfl) ?_
    refine W.no 0 100000 (by kernel_rfl) ?_
    refine W.no 0 100000 (by kernel_rfl) ?_
    refine W.no 0 100000 (by kernel_rfl) ?_
    refine W.no 0 100000 (by kernel_rfl) ?_
    refine W.no 0 100000 (by kernel_rfl) ?_
    exact W.retT 0 100000 h (by kernel_rfl)

theorem strings_HasPrefix_con {s_28 : List UInt8} {prefix_29 : List UInt8} {r : Bool} (h : strings_HasPrefix s_28 prefix_29 = some r) : Con Go.Proofs.Tryz.prog 86 [AV.str s_28, AV.str prefix_29] [] (strings_HasPrefix_res r) (strings_HasPrefix_out r) := by
  refine W.con (by kernel_rfl) ?_
  unfold strings_HasPrefix at h
  refine W.bind h fun a_34 ha_34 h => ?_
  refine W.call 0 100000 (by kernel_rfl) (stringslite_HasPrefix_con ha_34) (by kernel_rfl) ?_
  exact W.retT 0 100000 h (by kernel_rfl)

theorem path_plain_con {s_22 : List UInt8} {r : Bool} (h : path_plain s_22 = some r) : Con Go.Proofs.Tryz.prog 102 [AV.str s_22] [] (path_plain_res r) (path_plain_out r) := by
  refine W.con (by kernel_rfl) ?_
  unfold path_plain at h
  refine W.at 0 100000 [] [0, 5, 6] (c' := (fun (s_42 : Int) => (Cfg.mk Mode.run (headTodo Go.Proofs.Tryz.prog 102 0) (St.mk [AV.str s_22, jj, jj, jj, jj, AV.int IntKind.i64 (↑(List.length s_22) : Int), AV.int IntKind.i64 s_42, jj, jj, jj, jj, jj, jj, jj, jj, jj, jj, jj, jj, jj, jj, jj] [] (0 : Nat)))) ((0 : Int))) (by kernel_rfl) ?_
  refine W.loop (fun (s_42 : Int) => (Cfg.mk Mode.run (headTodo Go.Proofs.Tryz.prog 102 0) (St.mk [AV.str s_22, jj, jj, jj, jj, AV.int IntKind.i64 (↑(List.length s_22) : Int), AV.int IntKind.i64 s_42, jj, jj, jj, jj, jj, jj, jj, jj, jj, jj, jj, jj, jj, jj, jj] [] (0 : Nat)))) (fun t => (Sum.elim (fun t_26 => r = (Bool.false)) (fun t_27 => Walk Go.Proofs.Tryz.prog 102 (Cfg.mk Mode.run ((headTodo Go.Proofs.Tryz.prog 102 0).drop 3) (St.mk [AV.str s_22, jj, jj, jj, jj, jj, jj, jj, jj, jj, jj, jj, jj, jj, jj, jj, jj, jj, jj, jj, jj, jj] [] (0 : Nat))) (path_plain_res r) (path_plain_out r))) t) h (fun t h => ?_) (fun s_42 x39 h39 K39 => ?_)
  ·
    rcases t with t_26 | t_27
    · replace h := W.inl (h)
      refine W.elimL (?_)
      exact (Option.some.inj h).symm
    · replace h := W.inr (h)
      refine W.elimR (?_)
      refine W.bind h fun a_37 ha_37 h => ?_
      refine W.call 0 100000 (by kernel_rfl) (strings_HasPrefix_con ha_37) (by kernel_rfl) ?_
      exact W.retT 0 100000 h (by kernel_rfl)
  · unfold path_plain_b0 at h39
    refine W.cond 2 100000 h39 (by kernel_rfl) (fun h39 => ?_) (fun h39 => ?_)
    ·
      refine W.needT 2 100000 h39 (by kernel_rfl) (fun h39 => ?_)
      refine W.cond 2 100000 h39 (by kernel_rfl) (fun h39 => ?_) (fun h39 => ?_)
      ·
        refine W.yes 2 100000 (by kernel_rfl) ?_
        refine W.yes 2 100000 (by kernel_rfl) ?_
        refine W.yes 2 100000 (by kernel_rfl) ?_
        refine W.yes 2 100000 (by kernel_rfl) ?_
        refine W.yes 2 100000 (by kernel_rfl) ?_
        cases h39; exact W.retK 2 100000 K39 (by kernel_rfl)
      ·
        refine W.no 2 100000 (by kernel_rfl) ?_
        refine W.no 2 100000 (by kernel_rfl) ?_
        refine W.needT 2 100000 h39 (by kernel_rfl) (fun h39 => ?_)
        refine W.no 2 100000 (by kernel_rfl) ?_
        refine W.no 2 100000 (by kernel_rfl) ?_
        refine W.cond 2 100000 h39 (by kernel_rfl) (fun h39 => ?_) (fun h39 => ?_)
        ·
          cases h39; exact W.retK 2 100000 K39 (by kernel_rfl)
        ·
          cases h39; exact W.at 2 100000 [] [0, 5, 6] (by kernel_rfl) K39
    ·
      cases h39; exact W.at 2 100000 [] [0] (by kernel_rfl) K39

theorem strings_Count_con {s_63 : List UInt8} {substr_64 : List UInt8} {r : Int} (h : strings_Count s_63 substr_64 = some r) : Con Go.Proofs.Tryz.prog 94 [AV.str s_63, AV.str substr_64] [] (strings_Count_res r) (strings_Count_out r) := by
  refine W.con (by kernel_rfl) ?_
  unfold strings_Count at h
  refine W.cond 0 100000 h (by kernel_rfl) (fun h => ?_) (fun h => ?_)
  ·
    exact nomatch h
  ·
    refine W.cond 0 100000 h (by kernel_rfl) (fun h => ?_) (fun h => ?_)
    ·
      refine W.needT 0 100000 h (by kernel_rfl) (fun h => ?_)
      exact W.retT 0 100000 h (by kernel_rfl)
    ·
      refine W.at 0 100000 [] [0, 1, 5] (c' := (fun (s_75 : List UInt8 × Int) => (Cfg.mk Mode.run (headTodo Go.Proofs.Tryz.prog 94 0) (St.mk [AV.str (Prod.fst s_75), AV.str substr_64, jj, jj, jj, AV.int IntKind.i64 (Prod.snd s_75), jj, jj, jj, jj, jj, jj, jj, jj, jj, jj, jj, jj, jj, jj, jj, jj, jj, jj, jj, jj, jj, jj, jj, jj, jj, jj, jj, jj] [] (0 : Nat)))) (s_63, (0 : Int))) (by kernel_rfl) ?_
      refine W.loop (fun (s_75 : List UInt8 × Int) => (Cfg.mk Mode.run (headTodo Go.Proofs.Tryz.prog 94 0) (St.mk [AV.str (Prod.fst s_75), AV.str substr_64, jj, jj, jj, AV.int IntKind.i64 (Prod.snd s_75), jj, jj, jj, jj, jj, jj, jj, jj, jj, jj, jj, jj, jj, jj, jj, jj, jj, jj, jj, jj, jj, jj, jj, jj, jj, jj, jj, jj] [] (0 : Nat)))) (fun t_70 => r = (t_70)) h (fun t_70 h => ?_) (fun s_75 x72 h72 K72 => ?_)
      ·
        exact (Option.some.inj h).symm
      · unfold strings_Count_b0 at h72
        refine W.bind h72 fun a_68 ha_68 h72 => ?_
        refine W.call 1 100000 (by kernel_rfl) (strings_Index_con ha_68) (by kernel_rfl) ?_
        refine W.cond 1 100000 h72 (by kernel_rfl) (fun h72 => ?_) (fun h72 => ?_)
        ·
          cases h72; exact W.retK 1 100000 K72 (by kernel_rfl)
        ·
          refine W.needT 1 100000 h72 (by kernel_rfl) (fun h72 => ?_)
          cases h72; exact W.at 1 100000 [] [0, 1, 5] (by kernel_rfl) K72

theorem strings_genSplit_con {s_57 : List UInt8} {sep_58 : List UInt8} {sepSave_59 : Int} {n_60 : Int} {r : List (List UInt8)} (h : strings_genSplit s_57 sep_58 sepSave_59 n_60 = some r) : Con Go.Proofs.Tryz.prog 77 [AV.str s_57, AV.str sep_58, AV.int IntKind.i64 sepSave_59, AV.int IntKind.i64 n_60] [] (strings_genSplit_res r) (strings_genSplit_out r) := by
  refine W.con (by kernel_rfl) ?_
  unfold strings_genSplit at h
  refine W.cond 0 100000 h (by kernel_rfl) (fun h => ?_) (fun h => ?_)
  ·
    exact W.retT 0 100000 h (by kernel_rfl)
  ·
    refine W.cond 0 100000 h (by kernel_rfl) (fun h => ?_) (fun h => ?_)
    ·
      exact nomatch h
    ·
      refine W.join (fun t_78 => Walk Go.Proofs.Tryz.prog 77 (Cfg.mk Mode.run (seqTodo Go.Proofs.Tryz.prog 77 7) (St.mk [AV.str s_57, AV.str sep_58, AV.int IntKind.i64 sepSave_59, AV.int IntKind.i64 t_78, jj, jj, jj, jj, jj, jj, jj, jj, jj, jj, jj, jj, jj, jj, jj, jj, jj, jj, jj, jj, jj, jj, jj, jj, jj, jj, jj, jj, jj, jj, jj, jj, jj, jj, jj, jj, jj, jj, jj, jj, jj, jj, jj, jj, jj, jj, jj, jj, jj, jj, jj, jj, jj, jj, jj, jj, jj, jj, jj, jj, jj, jj] [] (0 : Nat))) (strings_genSplit_res r) (strings_genSplit_out r)) h (fun t_78 h => ?_) (fun t92 h92 K92 => ?_)
      ·
        refine W.needT 0 100000 h (by kernel_rfl) (fun h => ?_)
        refine W.at 0 100000 [] [0, 1, 2, 3, 9, 10] (c' := (fun (s_95 : List UInt8 × Int × List (List UInt8)) => (Cfg.mk Mode.run (headTodo Go.Proofs.Tryz.prog 77 0) (St.mk [AV.str (Prod.fst s_95), AV.str sep_58, AV.int IntKind.i64 sepSave_59, AV.int IntKind.i64 (IntKind.wrap IntKind.i64 ((if IntKind.wrap IntKind.i64 ((↑(List.length s_57) : Int) + (1 : Int)) < t_78 then IntKind.wrap IntKind.i64 ((↑(List.length s_57) : Int) + (1 : Int)) else t_78) - (1 : Int))), jj, jj, jj, jj, jj, AV.view (0 : Nat) (0 : Nat) Option.none, AV.int IntKind.i64 (Prod.fst (Prod.snd s_95)), jj, jj, jj, jj, jj, jj, jj, jj, jj, jj, jj, jj, jj, jj, jj, jj, jj, jj, jj, jj, jj, jj, jj, jj, jj, jj, jj, jj, jj, jj, jj, jj, jj, jj, jj, jj, jj, jj, jj, jj, jj, jj, jj, jj, jj, jj, jj, jj, jj, jj, jj, jj, jj, jj, jj] [AO.row Ty.str (Prod.snd (Prod.snd s_95))] (0 : Nat)))) (s_57, (0 : Int), List.replicate (Int.toNat (if IntKind.wrap IntKind.i64 ((↑(List.length s_57) : Int) + (1 : Int)) < t_78 then IntKind.wrap IntKind.i64 ((↑(List.length s_57) : Int) + (1 : Int)) else t_78)) [])) (by kernel_rfl) ?_
        refine W.loop (fun (s_95 : List UInt8 × Int × List (List UInt8)) => (Cfg.mk Mode.run (headTodo Go.Proofs.Tryz.prog 77 0) (St.mk [AV.str (Prod.fst s_95), AV.str sep_58, AV.int IntKind.i64 sepSave_59, AV.int IntKind.i64 (IntKind.wrap IntKind.i64 ((if IntKind.wrap IntKind.i64 ((↑(List.length s_57) : Int) + (1 : Int)) < t_78 then IntKind.wrap IntKind.i64 ((↑(List.length s_57) : Int) + (1 : Int)) else t_78) - (1 : Int))), jj, jj, jj, jj, jj, AV.view (0 : Nat) (0 : Nat) Option.none, AV.int IntKind.i64 (Prod.fst (Prod.snd s_95)), jj, jj, jj, jj, jj, jj, jj, jj, jj, jj, jj, jj, jj, jj, jj, jj, jj, jj, jj, jj, jj, jj, jj, jj, jj, jj, jj, jj, jj, jj, jj, jj, jj, jj, jj, jj, jj, jj, jj, jj, jj, jj, jj, jj, jj, jj, jj, jj, jj, jj, jj, jj, jj, jj, jj] [AO.row Ty.str (Prod.snd (Prod.snd s_95))] (0 : Nat)))) (fun t_89 => Walk Go.Proofs.Tryz.prog 77 (Cfg.mk Mode.run ((headTodo Go.Proofs.Tryz.prog 77 0).drop 3) (St.mk [AV.str (Prod.fst t_89), jj, jj, jj, jj, jj, jj, jj, jj, AV.view (0 : Nat) (0 : Nat) Option.none, AV.int IntKind.i64 (Prod.fst (Prod.snd t_89)), jj, jj, jj, jj, jj, jj, jj, jj, jj, jj, jj, jj, jj, jj, jj, jj, jj, jj, jj, jj, jj, jj, jj, jj, jj, jj, jj, jj, jj, jj, jj, jj, jj, jj, jj, jj, jj, jj, jj, jj, jj, jj, jj, jj, jj, jj, jj, jj, jj, jj, jj, jj, jj, jj, jj] [AO.row Ty.str (Prod.snd (Prod.snd t_89))] (0 : Nat))) (strings_genSplit_res r) (strings_genSplit_out r)) h (fun t_89 h => ?_) (fun s_95 x91 h91 K91 => ?_)
        ·
          refine W.needT 0 100000 h (by kernel_rfl) (fun h => ?_)
          refine W.needT 0 100000 h (by kernel_rfl) (fun h => ?_)
          refine W.needT 0 100000 h (by kernel_rfl) (fun h => ?_)
          exact W.retT 0 100000 h (by kernel_rfl)
        · unfold strings_genSplit_b0 at h91
          refine W.cond 2 100000 h91 (by kernel_rfl) (fun h91 => ?_) (fun h91 => ?_)
          ·
            refine W.bind h91 fun a_85 ha_85 h91 => ?_
            refine W.call 2 100000 (by kernel_rfl) (strings_Index_con ha_85) (by kernel_rfl) ?_
            refine W.cond 2 100000 h91 (by kernel_rfl) (fun h91 => ?_) (fun h91 => ?_)
            ·
              cases h91; exact W.at 2 100000 [] [0, 9, 10] (by kernel_rfl) K91
            ·
              refine W.needT 2 100000 h91 (by kernel_rfl) (fun h91 => ?_)
              refine W.needT 2 100000 h91 (by kernel_rfl) (fun h91 => ?_)
              refine W.needT 2 100000 h91 (by kernel_rfl) (fun h91 => ?_)
              refine W.needT 2 100000 h91 (by kernel_rfl) (fun h91 => ?_)
              cases h91; exact W.at 2 100000 [] [0, 1, 2, 3, 9, 10] (by kernel_rfl) K91
          ·
            cases h91; exact W.at 2 100000 [] [0, 9, 10] (by kernel_rfl) K91
      · refine W.next 0 2 (by kernel_rfl) ?_
        refine W.cond 1 100000 h92 (by kernel_rfl) (fun h92 => ?_) (fun h92 => ?_)
        ·
          refine W.bind h92 fun a_76 ha_76 h92 => ?_
          refine W.call 1 100000 (by kernel_rfl) (strings_Count_con ha_76) (by kernel_rfl) ?_
          cases h92; exact W.at 1 100000 [] [0, 1, 2, 3] (by kernel_rfl) K92
        ·
          cases h92; exact W.at 1 100000 [] [0, 1, 2, 3] (by kernel_rfl) K92

theorem strings_Split_con {s_45 : List UInt8} {sep_46 : List UInt8} {r : List (List UInt8)} (h : strings_Split s_45 sep_46 = some r) : Con Go.Proofs.Tryz.prog 48 [AV.str s_45, AV.str sep_46] [] (strings_Split_res r) (strings_Split_out r) := by
  refine W.con (by kernel_rfl) ?_
  unfold strings_Split at h
  refine W.bind h fun a_96 ha_96 h => ?_
  refine W.call 0 100000 (by kernel_rfl) (strings_genSplit_con ha_96) (by kernel_rfl) ?_
  exact W.retT 0 100000 h (by kernel_rfl)

theorem path_Parts_1_con {p_104 : List UInt8} {r : Bool} (h : path_Parts_1 p_104 = some r) : Con Go.Proofs.Tryz.prog 131 [AV.str p_104] [] (path_Parts_1_res r) (path_Parts_1_out r) := by
  refine W.con (by kernel_rfl) ?_
  unfold path_Parts_1 at h
  exact W.retT 0 100000 h (by kernel_rfl)

theorem path_keep_string__con {l_100 : List (List UInt8)} {r : List (List UInt8)} (h : path_keep_string_ l_100 = some r) : Con Go.Proofs.Tryz.prog 130 [AV.list Ty.str l_100 Bool.false, AV.func (Go.Fn.func (131 : Nat)) [] []] [] (path_keep_string__res r) (path_keep_string__out r) := by
  refine W.con (by kernel_rfl) ?_
  unfold path_keep_string_ at h
  refine W.at 0 100000 [Co.own 5 (Ty.str)] [1, 5, 8, 9, 10] (c' := (fun (s_119 : Int × List (List UInt8)) => (Cfg.mk Mode.run (headTodo Go.Proofs.Tryz.prog 130 0) (St.mk [jj, AV.func (Go.Fn.func (131 : Nat)) [] [], jj, jj, jj, AV.view (0 : Nat) (0 : Nat) Option.none, jj, jj, AV.list Ty.str l_100 Bool.false, AV.int IntKind.i64 (↑(List.length l_100) : Int), AV.int IntKind.i64 (Prod.fst s_119), jj, jj, jj, jj, jj, jj, jj, jj, jj, jj, jj, jj] [AO.row Ty.str (Prod.snd s_119)] (0 : Nat)))) ((0 : Int), [])) (by kernel_rfl) ?_
  refine W.loop (fun (s_119 : Int × List (List UInt8)) => (Cfg.mk Mode.run (headTodo Go.Proofs.Tryz.prog 130 0) (St.mk [jj, AV.func (Go.Fn.func (131 : Nat)) [] [], jj, jj, jj, AV.view (0 : Nat) (0 : Nat) Option.none, jj, jj, AV.list Ty.str l_100 Bool.false, AV.int IntKind.i64 (↑(List.length l_100) : Int), AV.int IntKind.i64 (Prod.fst s_119), jj, jj, jj, jj, jj, jj, jj, jj, jj, jj, jj, jj] [AO.row Ty.str (Prod.snd s_119)] (0 : Nat)))) (fun t_114 => Walk Go.Proofs.Tryz.prog 130 (Cfg.mk Mode.run ((headTodo Go.Proofs.Tryz.prog 130 0).drop 3) (St.mk [jj, jj, jj, jj, jj, AV.view (0 : Nat) (0 : Nat) Option.none, jj, jj, jj, jj, jj, jj, jj, jj, jj, jj, jj, jj, jj, jj, jj, jj, jj] [AO.row Ty.str t_114] (0 : Nat))) (path_keep_string__res r) (path_keep_string__out r)) h (fun t_114 h => ?_) (fun s_119 x116 h116 K116 => ?_)
  ·
    exact W.retT 0 100000 h (by kernel_rfl)
  · unfold path_keep_string__b0 at h116
    refine W.cond 2 100000 h116 (by kernel_rfl) (fun h116 => ?_) (fun h116 => ?_)
    ·
      refine W.needT 2 100000 h116 (by kernel_rfl) (fun h116 => ?_)
      refine W.bind h116 fun a_112 ha_112 h116 => ?_
      refine W.call 2 100000 (by kernel_rfl) (path_Parts_1_con ha_112) (by kernel_rfl) ?_
      refine W.cond 2 100000 h116 (by kernel_rfl) (fun h116 => ?_) (fun h116 => ?_)
      ·
        refine W.needT 2 100000 h116 (by kernel_rfl) (fun h116 => ?_)
        cases h116; exact W.at 2 100000 [Co.own 5 (Ty.str)] [1, 5, 8, 9, 10] (by kernel_rfl) K116
      ·
        cases h116; exact W.at 2 100000 [Co.own 5 (Ty.str)] [1, 5, 8, 9, 10] (by kernel_rfl) K116
    ·
      cases h116; exact W.at 2 100000 [] [5] (by kernel_rfl) K116

theorem path_Parts_con {s_44 : List UInt8} {r : List (List UInt8)} (h : path_Parts s_44 = some r) : Con Go.Proofs.Tryz.prog 103 [AV.str s_44] [] (path_Parts_res r) (path_Parts_out r) := by
  refine W.con (by kernel_rfl) ?_
  unfold path_Parts at h
  refine W.bind h fun a_99 ha_99 h => ?_
  refine W.call 0 100000 (by kernel_rfl) (strings_Split_con ha_99) (by kernel_rfl) ?_
  refine W.bind h fun a_120 ha_120 h => ?_
  refine W.call 0 100000 (by kernel_rfl) (path_keep_string__con ha_120) (by kernel_rfl) ?_
  exact W.retT 0 100000 h (by kernel_rfl)

theorem path_Clean_con {s_21 : List UInt8} {r : List UInt8 × Int} (h : path_Clean s_21 = some r) : Con Go.Proofs.Tryz.prog 84 [AV.str s_21] [] (path_Clean_res r) (path_Clean_out r) := by
  refine W.con (by kernel_rfl) ?_
  unfold path_Clean at h
  refine W.bind h fun a_43 ha_43 h => ?_
  refine W.call 0 100000 (by kernel_rfl) (path_plain_con ha_43) (by kernel_rfl) ?_
  refine W.cond 0 100000 h (by kernel_rfl) (fun h => ?_) (fun h => ?_)
  ·
    exact W.retT 0 100000 h (by kernel_rfl)
  ·
    refine W.bind h fun a_123 ha_123 h => ?_
    refine W.call 0 100000 (by kernel_rfl) (path_Parts_con ha_123) (by kernel_rfl) ?_
    refine W.at 0 100000 [Co.own 4 (Ty.str)] [4, 12, 13, 14] (c' := (fun (s_139 : Int × List (List UInt8)) => (Cfg.mk Mode.run (headTodo Go.Proofs.Tryz.prog 84 0) (St.mk [jj, jj, jj, jj, AV.view (0 : Nat) (0 : Nat) Option.none, jj, jj, jj, jj, jj, jj, jj, AV.view (1 : Nat) (0 : Nat) Option.none, AV.int IntKind.i64 ((↑(List.length a_123) : Int) - (↑(0 : Nat) : Int)), AV.int IntKind.i64 (Prod.fst s_139), jj, jj, jj, jj, jj, jj, jj, jj, jj, jj, jj, jj, jj, jj, jj, jj, jj, jj, jj, jj, jj, jj, jj, jj, jj, jj, jj] [AO.row Ty.str (Prod.snd s_139), AO.row Ty.str a_123] (0 : Nat)))) ((0 : Int), [])) (by kernel_rfl) ?_
    refine W.loop (fun (s_139 : Int × List (List UInt8)) => (Cfg.mk Mode.run (headTodo Go.Proofs.Tryz.prog 84 0) (St.mk [jj, jj, jj, jj, AV.view (0 : Nat) (0 : Nat) Option.none, jj, jj, jj, jj, jj, jj, jj, AV.view (1 : Nat) (0 : Nat) Option.none, AV.int IntKind.i64 ((↑(List.length a_123) : Int) - (↑(0 : Nat) : Int)), AV.int IntKind.i64 (Prod.fst s_139), jj, jj, jj, jj, jj, jj, jj, jj, jj, jj, jj, jj, jj, jj, jj, jj, jj, jj, jj, jj, jj, jj, jj, jj, jj, jj, jj] [AO.row Ty.str (Prod.snd s_139), AO.row Ty.str a_123] (0 : Nat)))) (fun t_132 => Walk Go.Proofs.Tryz.prog 84 (Cfg.mk Mode.run ((headTodo Go.Proofs.Tryz.prog 84 0).drop 3) (St.mk [jj, jj, jj, jj, AV.view (0 : Nat) (0 : Nat) Option.none, jj, jj, jj, jj, jj, jj, jj, jj, jj, jj, jj, jj, jj, jj, jj, jj, jj, jj, jj, jj, jj, jj, jj, jj, jj, jj, jj, jj, jj, jj, jj, jj, jj, jj, jj, jj, jj] [AO.row Ty.str t_132] (0 : Nat))) (path_Clean_res r) (path_Clean_out r)) h (fun t_132 h => ?_) (fun s_139 x135 h135 K135 => ?_)
    ·
      refine W.bind h fun a_133 ha_133 h => ?_
      refine W.call 0 100000 (by kernel_rfl) (strings_Join_con ha_133) (by kernel_rfl) ?_
      refine W.needT 0 100000 h (by kernel_rfl) (fun h => ?_)
      refine W.cond 0 100000 h (by kernel_rfl) (fun h => ?_) (fun h => ?_)
      ·
        exact W.retT 0 100000 h (by kernel_rfl)
      ·
        exact W.retT 0 100000 h (by kernel_rfl)
    · unfold path_Clean_b0 at h135
      refine W.cond 2 100000 h135 (by kernel_rfl) (fun h135 => ?_) (fun h135 => ?_)
      ·
        refine W.needT 2 100000 h135 (by kernel_rfl) (fun h135 => ?_)
        refine W.needT 2 100000 h135 (by kernel_rfl) (fun h135 => ?_)
        refine W.cond 2 100000 h135 (by kernel_rfl) (fun h135 => ?_) (fun h135 => ?_)
        ·
          cases h135; exact W.at 2 100000 [Co.own 4 (Ty.str)] [4, 12, 13, 14] (by kernel_rfl) K135
        ·
          refine W.cond 2 100000 h135 (by kernel_rfl) (fun h135 => ?_) (fun h135 => ?_)
          ·
            refine W.needT 2 100000 h135 (by kernel_rfl) (fun h135 => ?_)
            cases h135; exact W.at 2 100000 [Co.own 4 (Ty.str)] [4, 12, 13, 14] (by kernel_rfl) K135
          ·
            refine W.needT 2 100000 h135 (by kernel_rfl) (fun h135 => ?_)
            cases h135; exact W.at 2 100000 [Co.own 4 (Ty.str)] [4, 12, 13, 14] (by kernel_rfl) K135
      ·
        cases h135; exact W.at 2 100000 [] [4] (by kernel_rfl) K135

theorem path_Right_con {s_20 : List UInt8} {r : Bool} (h : path_Right s_20 = some r) : Con Go.Proofs.Tryz.prog 67 [AV.str s_20] [] (path_Right_res r) (path_Right_out r) := by
  refine W.con (by kernel_rfl) ?_
  unfold path_Right at h
  refine W.bind h fun a_140 ha_140 h => ?_
  refine W.call 0 100000 (by kernel_rfl) (path_Clean_con ha_140) (by kernel_rfl) ?_
  refine W.cond 0 100000 h (by kernel_rfl) (fun h => ?_) (fun h => ?_)
  ·
    refine W.yes 0 100000 (by kernel_rfl) ?_
    refine W.yes 0 100000 (by kernel_rfl) ?_
    refine W.yes 0 100000 (by kernel_rfl) ?_
    exact W.retT 0 100000 h (by kernel_rfl)
  ·
    refine W.no 0 100000 (by kernel_rfl) ?_
    refine W.no 0 100000 (by kernel_rfl) ?_
    refine W.no 0 100000 (by kernel_rfl) ?_
    exact W.retT 0 100000 h (by kernel_rfl)

theorem status_Trigger_con {s_1 : List UInt8} {r : Bool} (h : status_Trigger s_1 = some r) : Con Go.Proofs.Tryz.prog 33 [AV.str s_1] [] (status_Trigger_res r) (status_Trigger_out r) := by
  refine W.con (by kernel_rfl) ?_
  unfold status_Trigger at h
  refine W.bind h fun a_19 ha_19 h => ?_
  refine W.call 0 100000 (by kernel_rfl) (path_Name_con ha_19) (by kernel_rfl) ?_
  refine W.cond 0 100000 h (by kernel_rfl) (fun h => ?_) (fun h => ?_)
  ·
    refine W.yes 0 100000 (by kernel_rfl) ?_
    refine W.yes 0 100000 (by kernel_rfl) ?_
    exact W.retT 0 100000 h (by kernel_rfl)
  ·
    refine W.no 0 100000 (by kernel_rfl) ?_
    refine W.bind h fun a_143 ha_143 h => ?_
    refine W.call 0 100000 (by kernel_rfl) (path_Right_con ha_143) (by kernel_rfl) ?_
    refine W.no 0 100000 (by kernel_rfl) ?_
    exact W.retT 0 100000 h (by kernel_rfl)

theorem bytealg_CompareString_con {a_157 : List UInt8} {b_158 : List UInt8} {r : Int} (h : bytealg_CompareString a_157 b_158 = some r) : Con Go.Proofs.Tryz.prog 87 [AV.str a_157, AV.str b_158] [] (bytealg_CompareString_res r) (bytealg_CompareString_out r) := by
  refine W.con (by kernel_rfl) ?_
  unfold bytealg_CompareString at h
  exact W.retT 0 100000 h (by kernel_rfl)

theorem strings_Compare_con {a_155 : List UInt8} {b_156 : List UInt8} {r : Int} (h : strings_Compare a_155 b_156 = some r) : Con Go.Proofs.Tryz.prog 69 [AV.str a_155, AV.str b_156] [] (strings_Compare_res r) (strings_Compare_out r) := by
  refine W.con (by kernel_rfl) ?_
  unfold strings_Compare at h
  refine W.bind h fun a_161 ha_161 h => ?_
  refine W.call 0 100000 (by kernel_rfl) (bytealg_CompareString_con ha_161) (by kernel_rfl) ?_
  exact W.retT 0 100000 h (by kernel_rfl)

theorem trigs_compare_con {a_149 : List UInt8} {a_150 : List UInt8} {a_151 : Bool} {b_152 : List UInt8} {b_153 : List UInt8} {b_154 : Bool} {r : Int} (h : trigs_compare a_149 a_150 a_151 b_152 b_153 b_154 = some r) : Con Go.Proofs.Tryz.prog 35 [AV.agg [AV.str a_149, AV.str a_150, AV.bool a_151], AV.agg [AV.str b_152, AV.str b_153, AV.bool b_154]] [] (trigs_compare_res r) (trigs_compare_out r) := by
  refine W.con (by kernel_rfl) ?_
  unfold trigs_compare at h
  refine W.bind h fun a_164 ha_164 h => ?_
  refine W.call 0 100000 (by kernel_rfl) (strings_Compare_con ha_164) (by kernel_rfl) ?_
  refine W.cond 0 100000 h (by kernel_rfl) (fun h => ?_) (fun h => ?_)
  ·
    exact W.retT 0 100000 h (by kernel_rfl)
  ·
    refine W.bind h fun a_165 ha_165 h => ?_
    refine W.call 0 100000 (by kernel_rfl) (strings_Compare_con ha_165) (by kernel_rfl) ?_
    exact W.retT 0 100000 h (by kernel_rfl)

theorem cellarerref02_Name_con {s_170 : List UInt8} {r : Bool} (h : cellarerref02_Name s_170 = some r) : Con Go.Proofs.Tryz.prog 37 [AV.str s_170] [] (cellarerref02_Name_res r) (cellarerref02_Name_out r) := by
  refine W.con (by kernel_rfl) ?_
  unfold cellarerref02_Name at h
  refine W.at 0 100000 [] [0, 3] (c' := (fun (s_188 : Int) => (Cfg.mk Mode.run (headTodo Go.Proofs.Tryz.prog 37 0) (St.mk [AV.str s_170, jj, jj, AV.int IntKind.i64 s_188, jj, jj, jj, jj, jj, jj, jj, jj, jj, jj, jj, jj, jj, jj, jj, jj, jj, jj, jj, jj, jj, jj, jj, jj, jj, jj, jj, jj, jj, jj, jj, jj, jj, jj, jj, jj, jj, jj, jj, jj, jj, jj, jj, jj, jj, jj, jj, jj, jj, jj, jj, jj, jj, jj, jj, jj, jj, jj, jj, jj] [] (0 : Nat)))) ((0 : Int))) (by kernel_rfl) ?_
  refine W.loop (fun (s_188 : Int) => (Cfg.mk Mode.run (headTodo Go.Proofs.Tryz.prog 37 0) (St.mk [AV.str s_170, jj, jj, AV.int IntKind.i64 s_188, jj, jj, jj, jj, jj, jj, jj, jj, jj, jj, jj, jj, jj, jj, jj, jj, jj, jj, jj, jj, jj, jj, jj, jj, jj, jj, jj, jj, jj, jj, jj, jj, jj, jj, jj, jj, jj, jj, jj, jj, jj, jj, jj, jj, jj, jj, jj, jj, jj, jj, jj, jj, jj, jj, jj, jj, jj, jj, jj, jj] [] (0 : Nat)))) (fun t => (Sum.elim (fun t_182 => r = (Bool.false)) (fun t_183 => Walk Go.Proofs.Tryz.prog 37 (Cfg.mk Mode.run ((headTodo Go.Proofs.Tryz.prog 37 0).drop 3) (St.mk [AV.str s_170, jj, jj, jj, jj, jj, jj, jj, jj, jj, jj, jj, jj, jj, jj, jj, jj, jj, jj, jj, jj, jj, jj, jj, jj, jj, jj, jj, jj, jj, jj, jj, jj, jj, jj, jj, jj, jj, jj, jj, jj, jj, jj, jj, jj, jj, jj, jj, jj, jj, jj, jj, jj, jj, jj, jj, jj, jj, jj, jj, jj, jj, jj, jj] [] (0 : Nat))) (cellarerref02_Name_res r) (cellarerref02_Name_out r))) t) h (fun t h => ?_) (fun s_188 x185 h185 K185 => ?_)
  ·
    rcases t with t_182 | t_183
    · replace h := W.inl (h)
      refine W.elimL (?_)
      exact (Option.some.inj h).symm
    · replace h := W.inr (h)
      refine W.elimR (?_)
      refine W.cond 0 100000 h (by kernel_rfl) (fun h => ?_) (fun h => ?_)
      ·
        refine W.yes 0 100000 (by kernel_rfl) ?_
        refine W.yes 0 100000 (by kernel_rfl) ?_
        refine W.yes 0 100000 (by kernel_rfl) ?_
        exact W.retT 0 100000 h (by kernel_rfl)
      ·
        refine W.no 0 100000 (by kernel_rfl) ?_
        refine W.no 0 100000 (by kernel_rfl) ?_
        refine W.no 0 100000 (by kernel_rfl) ?_
        exact W.retT 0 100000 h (by kernel_rfl)
  · unfold cellarerref02_Name_b0 at h185
    refine W.cond 2 100000 h185 (by kernel_rfl) (fun h185 => ?_) (fun h185 => ?_)
    ·
      refine W.needT 2 100000 h185 (by kernel_rfl) (fun h185 => ?_)
      refine W.join (fun t_174 => Walk Go.Proofs.Tryz.prog 37 (Cfg.mk Mode.run (seqTodo Go.Proofs.Tryz.prog 37 7) (St.mk [AV.str s_170, jj, jj, AV.int IntKind.i64 s_188, AV.int IntKind.u8 (↑(UInt8.toNat (List.getD s_170 (Int.toNat s_188) (0 : UInt8))) : Int), AV.bool t_174, jj, jj, jj, jj, jj, jj, jj, jj, jj, jj, jj, jj, jj, jj, jj, jj, jj, jj, jj, jj, jj, jj, jj, jj, jj, jj, jj, jj, jj, jj, jj, jj, jj, jj, jj, jj, jj, jj, jj, jj, jj, jj, jj, jj, jj, jj, jj, jj, jj, jj, jj, jj, jj, jj, jj, jj, jj, jj] [] (0 : Nat))) (cellarerref02_Name_res r) (cellarerref02_Name_out r)) h185 (fun t_174 h185 => ?_) (fun t182 h182 K182 => ?_)
      ·
        refine W.join (fun t_176 => Walk Go.Proofs.Tryz.prog 37 (Cfg.mk Mode.run (seqTodo Go.Proofs.Tryz.prog 37 8) (St.mk [AV.str s_170, jj, jj, AV.int IntKind.i64 s_188, AV.int IntKind.u8 (↑(UInt8.toNat (List.getD s_170 (Int.toNat s_188) (0 : UInt8))) : Int), AV.bool t_174, AV.bool t_176, jj, jj, jj, jj, jj, jj, jj, jj, jj, jj, jj, jj, jj, jj, jj, jj, jj, jj, jj, jj, jj, jj, jj, jj, jj, jj, jj, jj, jj, jj, jj, jj, jj, jj, jj, jj, jj, jj, jj, jj, jj, jj, jj, jj, jj, jj, jj, jj, jj, jj, jj, jj, jj, jj, jj, jj, jj] [] (0 : Nat))) (cellarerref02_Name_res r) (cellarerref02_Name_out r)) h185 (fun t_176 h185 => ?_) (fun t181 h181 K181 => ?_)
        ·
          refine W.join (fun t_178 => Walk Go.Proofs.Tryz.prog 37 (Cfg.mk Mode.run (seqTodo Go.Proofs.Tryz.prog 37 9) (St.mk [AV.str s_170, jj, jj, AV.int IntKind.i64 s_188, jj, AV.bool t_174, AV.bool t_176, AV.bool t_178, jj, jj, jj, jj, jj, jj, jj, jj, jj, jj, jj, jj, jj, jj, jj, jj, jj, jj, jj, jj, jj, jj, jj, jj, jj, jj, jj, jj, jj, jj, jj, jj, jj, jj, jj, jj, jj, jj, jj, jj, jj, jj, jj, jj, jj, jj, jj, jj, jj, jj, jj, jj, jj, jj, jj, jj] [] (0 : Nat))) (cellarerref02_Name_res r) (cellarerref02_Name_out r)) h185 (fun t_178 h185 => ?_) (fun t180 h180 K180 => ?_)
          ·
            refine W.cond 2 100000 h185 (by kernel_rfl) (fun h185 => ?_) (fun h185 => ?_)
            ·
              refine W.yes 2 100000 (by kernel_rfl) ?_
              refine W.yes 2 100000 (by kernel_rfl) ?_
              refine W.cond 2 100000 h185 (by kernel_rfl) (fun h185 => ?_) (fun h185 => ?_)
              ·
                refine W.yes 2 100000 (by kernel_rfl) ?_
                refine W.yes 2 100000 (by kernel_rfl) ?_
                refine W.cond 2 100000 h185 (by kernel_rfl) (fun h185 => ?_) (fun h185 => ?_)
                ·
                  refine W.yes 2 100000 (by kernel_rfl) ?_
                  refine W.yes 2 100000 (by kernel_rfl) ?_
                  refine W.yes 2 100000 (by kernel_rfl) ?_
                  refine W.yes 2 100000 (by kernel_rfl) ?_
                  cases h185; exact W.retK 2 100000 K185 (by kernel_rfl)
                ·
                  refine W.no 2 100000 (by kernel_rfl) ?_
                  refine W.cond 2 100000 h185 (by kernel_rfl) (fun h185 => ?_) (fun h185 => ?_)
                  ·
                    refine W.yes 2 100000 (by kernel_rfl) ?_
                    refine W.no 2 100000 (by kernel_rfl) ?_
                    refine W.yes 2 100000 (by kernel_rfl) ?_
                    refine W.no 2 100000 (by kernel_rfl) ?_
                    refine W.cond 2 100000 h185 (by kernel_rfl) (fun h185 => ?_) (fun h185 => ?_)
                    ·
                      cases h185; exact W.retK 2 100000 K185 (by kernel_rfl)
                    ·
                      cases h185; exact W.at 2 100000 [] [0, 3] (by kernel_rfl) K185
                  ·
                    refine W.no 2 100000 (by kernel_rfl) ?_
                    refine W.no 2 100000 (by kernel_rfl) ?_
                    refine W.no 2 100000 (by kernel_rfl) ?_
                    refine W.no 2 100000 (by kernel_rfl) ?_
                    refine W.no 2 100000 (by kernel_rfl) ?_
                    cases h185; exact W.at 2 100000 [] [0, 3] (by kernel_rfl) K185
              ·
                refine W.no 2 100000 (by kernel_rfl) ?_
                refine W.no 2 100000 (by kernel_rfl) ?_
                refine W.no 2 100000 (by kernel_rfl) ?_
                refine W.no 2 100000 (by kernel_rfl) ?_
                refine W.cond 2 100000 h185 (by kernel_rfl) (fun h185 => ?_) (fun h185 => ?_)
                ·
                  refine W.yes 2 100000 (by kernel_rfl) ?_
                  refine W.no 2 100000 (by kernel_rfl) ?_
                  refine W.yes 2 100000 (by kernel_rfl) ?_
                  refine W.no 2 100000 (by kernel_rfl) ?_
                  refine W.cond 2 100000 h185 (by kernel_rfl) (fun h185 => ?_) (fun h185 => ?_)
                  ·
                    cases h185; exact W.retK 2 100000 K185 (by kernel_rfl)
                  ·
                    cases h185; exact W.at 2 100000 [] [0, 3] (by kernel_rfl) K185
                ·
                  refine W.no 2 100000 (by kernel_rfl) ?_
                  refine W.no 2 100000 (by kernel_rfl) ?_
                  refine W.no 2 100000 (by kernel_rfl) ?_
                  refine W.no 2 100000 (by kernel_rfl) ?_
                  refine W.no 2 100000 (by kernel_rfl) ?_
                  cases h185; exact W.at 2 100000 [] [0, 3] (by kernel_rfl) K185
            ·
              refine W.no 2 100000 (by kernel_rfl) ?_
              refine W.no 2 100000 (by kernel_rfl) ?_
              refine W.no 2 100000 (by kernel_rfl) ?_
              refine W.no 2 100000 (by kernel_rfl) ?_
              refine W.no 2 100000 (by kernel_rfl) ?_
              refine W.no 2 100000 (by kernel_rfl) ?_
              refine W.no 2 100000 (by kernel_rfl) ?_
              refine W.cond 2 100000 h185 (by kernel_rfl) (fun h185 => ?_) (fun h185 => ?_)
              ·
                refine W.yes 2 100000 (by kernel_rfl) ?_
                refine W.no 2 100000 (by kernel_rfl) ?_
                refine W.yes 2 100000 (by kernel_rfl) ?_
                refine W.no 2 100000 (by kernel_rfl) ?_
                refine W.cond 2 100000 h185 (by kernel_rfl) (fun h185 => ?_) (fun h185 => ?_)
                ·
                  cases h185; exact W.retK 2 100000 K185 (by kernel_rfl)
                ·
                  cases h185; exact W.at 2 100000 [] [0, 3] (by kernel_rfl) K185
              ·
                refine W.no 2 100000 (by kernel_rfl) ?_
                refine W.no 2 100000 (by kernel_rfl) ?_
                refine W.no 2 100000 (by kernel_rfl) ?_
                refine W.no 2 100000 (by kernel_rfl) ?_
                refine W.no 2 100000 (by kernel_rfl) ?_
                cases h185; exact W.at 2 100000 [] [0, 3] (by kernel_rfl) K185
          · refine W.next 2 1 (by kernel_rfl) ?_
            refine W.cond 6 100000 h180 (by kernel_rfl) (fun h180 => ?_) (fun h180 => ?_)
            ·
              refine W.yes 6 100000 (by kernel_rfl) ?_
              refine W.yes 6 100000 (by kernel_rfl) ?_
              refine W.yes 6 100000 (by kernel_rfl) ?_
              refine W.yes 6 100000 (by kernel_rfl) ?_
              refine W.yes 6 100000 (by kernel_rfl) ?_
              cases h180; exact W.at 6 100000 [] [0, 3, 5, 6, 7] (by kernel_rfl) K180
            ·
              refine W.no 6 100000 (by kernel_rfl) ?_
              refine W.no 6 100000 (by kernel_rfl) ?_
              refine W.cond 6 100000 h180 (by kernel_rfl) (fun h180 => ?_) (fun h180 => ?_)
              ·
                refine W.yes 6 100000 (by kernel_rfl) ?_
                refine W.yes 6 100000 (by kernel_rfl) ?_
                cases h180; exact W.at 6 100000 [] [0, 3, 5, 6, 7] (by kernel_rfl) K180
              ·
                refine W.no 6 100000 (by kernel_rfl) ?_
                refine W.no 6 100000 (by kernel_rfl) ?_
                cases h180; exact W.at 6 100000 [] [0, 3, 5, 6, 7] (by kernel_rfl) K180
        · refine W.next 2 1 (by kernel_rfl) ?_
          refine W.cond 6 100000 h181 (by kernel_rfl) (fun h181 => ?_) (fun h181 => ?_)
          ·
            refine W.yes 6 100000 (by kernel_rfl) ?_
            refine W.yes 6 100000 (by kernel_rfl) ?_
            cases h181; exact W.at 6 100000 [] [0, 3, 4, 5, 6] (by kernel_rfl) K181
          ·
            refine W.no 6 100000 (by kernel_rfl) ?_
            refine W.no 6 100000 (by kernel_rfl) ?_
            cases h181; exact W.at 6 100000 [] [0, 3, 4, 5, 6] (by kernel_rfl) K181
      · refine W.next 2 3 (by kernel_rfl) ?_
        refine W.cond 6 100000 h182 (by kernel_rfl) (fun h182 => ?_) (fun h182 => ?_)
        ·
          refine W.yes 6 100000 (by kernel_rfl) ?_
          refine W.yes 6 100000 (by kernel_rfl) ?_
          cases h182; exact W.at 6 100000 [] [0, 3, 4, 5] (by kernel_rfl) K182
        ·
          refine W.no 6 100000 (by kernel_rfl) ?_
          refine W.no 6 100000 (by kernel_rfl) ?_
          cases h182; exact W.at 6 100000 [] [0, 3, 4, 5] (by kernel_rfl) K182
    ·
      cases h185; exact W.at 2 100000 [] [0] (by kernel_rfl) K185

theorem cellarerref02_Parts_con {s_198 : List UInt8} {r : List (List UInt8)} (h : cellarerref02_Parts s_198 = some r) : Con Go.Proofs.Tryz.prog 106 [AV.str s_198] [] (cellarerref02_Parts_res r) (cellarerref02_Parts_out r) := by
  refine W.con (by kernel_rfl) ?_
  unfold cellarerref02_Parts at h
  refine W.at 0 100000 [Co.own 3 (Ty.str)] [0, 3, 4, 5] (c' := (fun (s_213 : List UInt8 × Int × List (List UInt8)) => (Cfg.mk Mode.run (headTodo Go.Proofs.Tryz.prog 106 0) (St.mk [AV.str s_198, jj, jj, AV.view (0 : Nat) (0 : Nat) Option.none, AV.str (Prod.fst s_213), AV.int IntKind.i64 (Prod.fst (Prod.snd s_213)), jj, jj, jj, jj, jj, jj, jj, jj, jj, jj, jj, jj, jj, jj, jj, jj, jj, jj, jj, jj, jj, jj, jj, jj, jj, jj, jj, jj, jj, jj] [AO.row Ty.str (Prod.snd (Prod.snd s_213))] (0 : Nat)))) ([], (0 : Int), [])) (by kernel_rfl) ?_
  refine W.loop (fun (s_213 : List UInt8 × Int × List (List UInt8)) => (Cfg.mk Mode.run (headTodo Go.Proofs.Tryz.prog 106 0) (St.mk [AV.str s_198, jj, jj, AV.view (0 : Nat) (0 : Nat) Option.none, AV.str (Prod.fst s_213), AV.int IntKind.i64 (Prod.fst (Prod.snd s_213)), jj, jj, jj, jj, jj, jj, jj, jj, jj, jj, jj, jj, jj, jj, jj, jj, jj, jj, jj, jj, jj, jj, jj, jj, jj, jj, jj, jj, jj, jj] [AO.row Ty.str (Prod.snd (Prod.snd s_213))] (0 : Nat)))) (fun t_208 => Walk Go.Proofs.Tryz.prog 106 (Cfg.mk Mode.run ((headTodo Go.Proofs.Tryz.prog 106 0).drop 3) (St.mk [jj, jj, jj, AV.view (0 : Nat) (0 : Nat) Option.none, AV.str (Prod.fst t_208), jj, jj, jj, jj, jj, jj, jj, jj, jj, jj, jj, jj, jj, jj, jj, jj, jj, jj, jj, jj, jj, jj, jj, jj, jj, jj, jj, jj, jj, jj, jj] [AO.row Ty.str (Prod.snd t_208)] (0 : Nat))) (cellarerref02_Parts_res r) (cellarerref02_Parts_out r)) h (fun t_208 h => ?_) (fun s_213 x210 h210 K210 => ?_)
  ·
    refine W.cond 0 100000 h (by kernel_rfl) (fun h => ?_) (fun h => ?_)
    ·
      refine W.needT 0 100000 h (by kernel_rfl) (fun h => ?_)
      exact W.retT 0 100000 h (by kernel_rfl)
    ·
      exact W.retT 0 100000 h (by kernel_rfl)
  · unfold cellarerref02_Parts_b0 at h210
    refine W.cond 2 100000 h210 (by kernel_rfl) (fun h210 => ?_) (fun h210 => ?_)
    ·
      refine W.needT 2 100000 h210 (by kernel_rfl) (fun h210 => ?_)
      refine W.cond 2 100000 h210 (by kernel_rfl) (fun h210 => ?_) (fun h210 => ?_)
      ·
        refine W.needT 2 100000 h210 (by kernel_rfl) (fun h210 => ?_)
        refine W.needT 2 100000 h210 (by kernel_rfl) (fun h210 => ?_)
        cases h210; exact W.at 2 100000 [Co.own 3 (Ty.str)] [0, 3, 4, 5] (by kernel_rfl) K210
      ·
        refine W.cond 2 100000 h210 (by kernel_rfl) (fun h210 => ?_) (fun h210 => ?_)
        ·
          refine W.needT 2 100000 h210 (by kernel_rfl) (fun h210 => ?_)
          cases h210; exact W.at 2 100000 [Co.own 3 (Ty.str)] [0, 3, 4, 5] (by kernel_rfl) K210
        ·
          cases h210; exact W.at 2 100000 [Co.own 3 (Ty.str)] [0, 3, 4, 5] (by kernel_rfl) K210
    ·
      cases h210; exact W.at 2 100000 [] [3, 4] (by kernel_rfl) K210

theorem cellarerref02_Joined_con {l_222 : List (List UInt8)} {r : List UInt8} (h : cellarerref02_Joined l_222 = some r) : Con Go.Proofs.Tryz.prog 107 [AV.list Ty.str l_222 Bool.false] [] (cellarerref02_Joined_res r) (cellarerref02_Joined_out r) := by
  refine W.con (by kernel_rfl) ?_
  unfold cellarerref02_Joined at h
  refine W.cond 0 100000 h (by kernel_rfl) (fun h => ?_) (fun h => ?_)
  ·
    exact W.retT 0 100000 h (by kernel_rfl)
  ·
    refine W.at 0 100000 [] [0, 3, 4] (c' := (fun (s_232 : List UInt8 × Int) => (Cfg.mk Mode.run (headTodo Go.Proofs.Tryz.prog 107 0) (St.mk [AV.list Ty.str l_222 Bool.false, jj, jj, AV.str (Prod.fst s_232), AV.int IntKind.i64 (Prod.snd s_232), jj, jj, jj, jj, jj, jj, jj, jj, jj, jj, jj, jj, jj, jj, jj, jj, jj] [] (0 : Nat)))) ([], (0 : Int))) (by kernel_rfl) ?_
    refine W.loop (fun (s_232 : List UInt8 × Int) => (Cfg.mk Mode.run (headTodo Go.Proofs.Tryz.prog 107 0) (St.mk [AV.list Ty.str l_222 Bool.false, jj, jj, AV.str (Prod.fst s_232), AV.int IntKind.i64 (Prod.snd s_232), jj, jj, jj, jj, jj, jj, jj, jj, jj, jj, jj, jj, jj, jj, jj, jj, jj] [] (0 : Nat)))) (fun t_227 => Walk Go.Proofs.Tryz.prog 107 (Cfg.mk Mode.run ((headTodo Go.Proofs.Tryz.prog 107 0).drop 3) (St.mk [jj, jj, jj, AV.str t_227, jj, jj, jj, jj, jj, jj, jj, jj, jj, jj, jj, jj, jj, jj, jj, jj, jj, jj] [] (0 : Nat))) (cellarerref02_Joined_res r) (cellarerref02_Joined_out r)) h (fun t_227 h => ?_) (fun s_232 x229 h229 K229 => ?_)
    ·
      exact W.retT 0 100000 h (by kernel_rfl)
    · unfold cellarerref02_Joined_b0 at h229
      refine W.cond 2 100000 h229 (by kernel_rfl) (fun h229 => ?_) (fun h229 => ?_)
      ·
        refine W.needT 2 100000 h229 (by kernel_rfl) (fun h229 => ?_)
        refine W.needT 2 100000 h229 (by kernel_rfl) (fun h229 => ?_)
        refine W.needT 2 100000 h229 (by kernel_rfl) (fun h229 => ?_)
        cases h229; exact W.at 2 100000 [] [0, 3, 4] (by kernel_rfl) K229
      ·
        cases h229; exact W.at 2 100000 [] [3] (by kernel_rfl) K229

theorem cellarerref02_Clean_con {s_191 : List UInt8} {r : List UInt8 × Int} (h : cellarerref02_Clean s_191 = some r) : Con Go.Proofs.Tryz.prog 88 [AV.str s_191] [] (cellarerref02_Clean_res r) (cellarerref02_Clean_out r) := by
  refine W.con (by kernel_rfl) ?_
  unfold cellarerref02_Clean at h
  refine W.join (fun t => (Sum.elim (fun t_192 => r = ([], (1 : Int))) (fun t_193 => Walk Go.Proofs.Tryz.prog 88 (Cfg.mk Mode.run (seqTodo Go.Proofs.Tryz.prog 88 1) (St.mk [AV.str s_191, jj, jj, jj, jj, jj, jj, jj, jj, jj, jj, jj, jj, jj, jj, jj, jj, jj, jj, jj, jj, jj, jj, jj, jj, jj, jj, jj, jj, jj, jj, jj, jj, jj, jj, jj, jj, jj, jj, jj, jj, jj, jj, jj, jj, jj, jj, jj, jj, jj, jj, jj, jj, jj, jj, jj, jj, jj, jj, jj, jj, jj, jj, jj, jj, jj, jj, jj, jj, jj, jj, jj] [] (0 : Nat))) (cellarerref02_Clean_res r) (cellarerref02_Clean_out r))) t) h (fun t h => ?_) (fun t237 h237 K237 => ?_)
  ·
    rcases t with t_192 | t_193
    · replace h := W.inl (h)
      refine W.elimL (?_)
      exact (Option.some.inj h).symm
    · replace h := W.inr (h)
      refine W.elimR (?_)
      refine W.at 0 100000 [] [0, 4] (c' := (fun (s_242 : Int) => (Cfg.mk Mode.run (headTodo Go.Proofs.Tryz.prog 88 0) (St.mk [AV.str s_191, jj, jj, jj, AV.int IntKind.i64 s_242, jj, jj, jj, jj, jj, jj, jj, jj, jj, jj, jj, jj, jj, jj, jj, jj, jj, jj, jj, jj, jj, jj, jj, jj, jj, jj, jj, jj, jj, jj, jj, jj, jj, jj, jj, jj, jj, jj, jj, jj, jj, jj, jj, jj, jj, jj, jj, jj, jj, jj, jj, jj, jj, jj, jj, jj, jj, jj, jj, jj, jj, jj, jj, jj, jj, jj, jj] [] (0 : Nat)))) ((0 : Int))) (by kernel_rfl) ?_
      refine W.loop (fun (s_242 : Int) => (Cfg.mk Mode.run (headTodo Go.Proofs.Tryz.prog 88 0) (St.mk [AV.str s_191, jj, jj, jj, AV.int IntKind.i64 s_242, jj, jj, jj, jj, jj, jj, jj, jj, jj, jj, jj, jj, jj, jj, jj, jj, jj, jj, jj, jj, jj, jj, jj, jj, jj, jj, jj, jj, jj, jj, jj, jj, jj, jj, jj, jj, jj, jj, jj, jj, jj, jj, jj, jj, jj, jj, jj, jj, jj, jj, jj, jj, jj, jj, jj, jj, jj, jj, jj, jj, jj, jj, jj, jj, jj, jj, jj] [] (0 : Nat)))) (fun t => (Sum.elim (fun t_196 => r = ([], (1 : Int))) (fun t_197 => Walk Go.Proofs.Tryz.prog 88 (Cfg.mk Mode.run ((headTodo Go.Proofs.Tryz.prog 88 0).drop 3) (St.mk [AV.str s_191, jj, jj, jj, jj, jj, jj, jj, jj, jj, jj, jj, jj, jj, jj, jj, jj, jj, jj, jj, jj, jj, jj, jj, jj, jj, jj, jj, jj, jj, jj, jj, jj, jj, jj, jj, jj, jj, jj, jj, jj, jj, jj, jj, jj, jj, jj, jj, jj, jj, jj, jj, jj, jj, jj, jj, jj, jj, jj, jj, jj, jj, jj, jj, jj, jj, jj, jj, jj, jj, jj, jj] [] (0 : Nat))) (cellarerref02_Clean_res r) (cellarerref02_Clean_out r))) t) h (fun t h => ?_) (fun s_242 x236 h236 K236 => ?_)
      ·
        rcases t with t_196 | t_197
        · replace h := W.inl (h)
          refine W.elimL (?_)
          exact (Option.some.inj h).symm
        · replace h := W.inr (h)
          refine W.elimR (?_)
          refine W.bind h fun a_214 ha_214 h => ?_
          refine W.call 0 100000 (by kernel_rfl) (cellarerref02_Parts_con ha_214) (by kernel_rfl) ?_
          refine W.at 0 100000 [Co.own 6 (Ty.str)] [5, 6, 7] (c' := (fun (s_243 : Int × List (List UInt8)) => (Cfg.mk Mode.run (headTodo Go.Proofs.Tryz.prog 88 1) (St.mk [jj, jj, jj, jj, jj, AV.view (0 : Nat) (0 : Nat) Option.none, AV.view (1 : Nat) (0 : Nat) Option.none, AV.int IntKind.i64 (Prod.fst s_243), jj, jj, jj, jj, jj, jj, jj, jj, jj, jj, jj, jj, jj, jj, jj, jj, jj, jj, jj, jj, jj, jj, jj, jj, jj, jj, jj, jj, jj, jj, jj, jj, jj, jj, jj, jj, jj, jj, jj, jj, jj, jj, jj, jj, jj, jj, jj, jj, jj, jj, jj, jj, jj, jj, jj, jj, jj, jj, jj, jj, jj, jj, jj, jj] [AO.row Ty.str a_214, AO.row Ty.str (Prod.snd s_243)] (0 : Nat)))) ((0 : Int), [])) (by kernel_rfl) ?_
          refine W.loop (fun (s_243 : Int × List (List UInt8)) => (Cfg.mk Mode.run (headTodo Go.Proofs.Tryz.prog 88 1) (St.mk [jj, jj, jj, jj, jj, AV.view (0 : Nat) (0 : Nat) Option.none, AV.view (1 : Nat) (0 : Nat) Option.none, AV.int IntKind.i64 (Prod.fst s_243), jj, jj, jj, jj, jj, jj, jj, jj, jj, jj, jj, jj, jj, jj, jj, jj, jj, jj, jj, jj, jj, jj, jj, jj, jj, jj, jj, jj, jj, jj, jj, jj, jj, jj, jj, jj, jj, jj, jj, jj, jj, jj, jj, jj, jj, jj, jj, jj, jj, jj, jj, jj, jj, jj, jj, jj, jj, jj, jj, jj, jj, jj, jj, jj] [AO.row Ty.str a_214, AO.row Ty.str (Prod.snd s_243)] (0 : Nat)))) (fun t_221 => Walk Go.Proofs.Tryz.prog 88 (Cfg.mk Mode.run ((headTodo Go.Proofs.Tryz.prog 88 1).drop 3) (St.mk [jj, jj, jj, jj, jj, jj, AV.view (0 : Nat) (0 : Nat) Option.none, jj, jj, jj, jj, jj, jj, jj, jj, jj, jj, jj, jj, jj, jj, jj, jj, jj, jj, jj, jj, jj, jj, jj, jj, jj, jj, jj, jj, jj, jj, jj, jj, jj, jj, jj, jj, jj, jj, jj, jj, jj, jj, jj, jj, jj, jj, jj, jj, jj, jj, jj, jj, jj, jj, jj, jj, jj, jj, jj, jj, jj, jj, jj, jj, jj] [AO.row Ty.str t_221] (0 : Nat))) (cellarerref02_Clean_res r) (cellarerref02_Clean_out r)) h (fun t_221 h => ?_) (fun s_243 x235 h235 K235 => ?_)
          ·
            refine W.bind h fun a_233 ha_233 h => ?_
            refine W.call 0 100000 (by kernel_rfl) (cellarerref02_Joined_con ha_233) (by kernel_rfl) ?_
            refine W.cond 0 100000 h (by kernel_rfl) (fun h => ?_) (fun h => ?_)
            ·
              exact W.retT 0 100000 h (by kernel_rfl)
            ·
              exact W.retT 0 100000 h (by kernel_rfl)
          · unfold cellarerref02_Clean_b1 at h235
            refine W.cond 2 100000 h235 (by kernel_rfl) (fun h235 => ?_) (fun h235 => ?_)
            ·
              refine W.needT 2 100000 h235 (by kernel_rfl) (fun h235 => ?_)
              refine W.needT 2 100000 h235 (by kernel_rfl) (fun h235 => ?_)
              refine W.cond 2 100000 h235 (by kernel_rfl) (fun h235 => ?_) (fun h235 => ?_)
              ·
                refine W.cond 2 100000 h235 (by kernel_rfl) (fun h235 => ?_) (fun h235 => ?_)
                ·
                  refine W.needT 2 100000 h235 (by kernel_rfl) (fun h235 => ?_)
                  cases h235; exact W.at 2 100000 [Co.own 6 (Ty.str)] [5, 6, 7] (by kernel_rfl) K235
                ·
                  cases h235; exact W.at 2 100000 [Co.own 6 (Ty.str)] [5, 6, 7] (by kernel_rfl) K235
              ·
                refine W.needT 2 100000 h235 (by kernel_rfl) (fun h235 => ?_)
                refine W.needT 2 100000 h235 (by kernel_rfl) (fun h235 => ?_)
                refine W.cond 2 100000 h235 (by kernel_rfl) (fun h235 => ?_) (fun h235 => ?_)
                ·
                  refine W.needT 2 100000 h235 (by kernel_rfl) (fun h235 => ?_)
                  refine W.needT 2 100000 h235 (by kernel_rfl) (fun h235 => ?_)
                  refine W.needT 2 100000 h235 (by kernel_rfl) (fun h235 => ?_)
                  cases h235; exact W.at 2 100000 [Co.own 6 (Ty.str)] [5, 6, 7] (by kernel_rfl) K235
                ·
                  cases h235; exact W.at 2 100000 [Co.own 6 (Ty.str)] [5, 6, 7] (by kernel_rfl) K235
            ·
              cases h235; exact W.at 2 100000 [] [6] (by kernel_rfl) K235
      · unfold cellarerref02_Clean_b0 at h236
        refine W.cond 2 100000 h236 (by kernel_rfl) (fun h236 => ?_) (fun h236 => ?_)
        ·
          refine W.needT 2 100000 h236 (by kernel_rfl) (fun h236 => ?_)
          refine W.cond 2 100000 h236 (by kernel_rfl) (fun h236 => ?_) (fun h236 => ?_)
          ·
            refine W.yes 2 100000 (by kernel_rfl) ?_
            refine W.yes 2 100000 (by kernel_rfl) ?_
            refine W.yes 2 100000 (by kernel_rfl) ?_
            refine W.yes 2 100000 (by kernel_rfl) ?_
            refine W.yes 2 100000 (by kernel_rfl) ?_
            cases h236; exact W.retK 2 100000 K236 (by kernel_rfl)
          ·
            refine W.no 2 100000 (by kernel_rfl) ?_
            refine W.no 2 100000 (by kernel_rfl) ?_
            refine W.needT 2 100000 h236 (by kernel_rfl) (fun h236 => ?_)
            refine W.no 2 100000 (by kernel_rfl) ?_
            refine W.no 2 100000 (by kernel_rfl) ?_
            refine W.cond 2 100000 h236 (by kernel_rfl) (fun h236 => ?_) (fun h236 => ?_)
            ·
              cases h236; exact W.retK 2 100000 K236 (by kernel_rfl)
            ·
              cases h236; exact W.at 2 100000 [] [0, 4] (by kernel_rfl) K236
        ·
          cases h236; exact W.at 2 100000 [] [0] (by kernel_rfl) K236
  · refine W.next 0 6 (by kernel_rfl) ?_
    refine W.cond 1 100000 h237 (by kernel_rfl) (fun h237 => ?_) (fun h237 => ?_)
    ·
      refine W.yes 1 100000 (by kernel_rfl) ?_
      refine W.yes 1 100000 (by kernel_rfl) ?_
      refine W.yes 1 100000 (by kernel_rfl) ?_
      refine W.yes 1 100000 (by kernel_rfl) ?_
      cases h237; exact W.retK 1 100000 K237 (by kernel_rfl)
    ·
      refine W.no 1 100000 (by kernel_rfl) ?_
      refine W.needT 1 100000 h237 (by kernel_rfl) (fun h237 => ?_)
      refine W.no 1 100000 (by kernel_rfl) ?_
      refine W.no 1 100000 (by kernel_rfl) ?_
      refine W.cond 1 100000 h237 (by kernel_rfl) (fun h237 => ?_) (fun h237 => ?_)
      ·
        cases h237; exact W.retK 1 100000 K237 (by kernel_rfl)
      ·
        cases h237; exact W.at 1 100000 [] [0] (by kernel_rfl) K237

theorem cellarerref02_Right_con {s_190 : List UInt8} {r : Bool} (h : cellarerref02_Right s_190 = some r) : Con Go.Proofs.Tryz.prog 70 [AV.str s_190] [] (cellarerref02_Right_res r) (cellarerref02_Right_out r) := by
  refine W.con (by kernel_rfl) ?_
  unfold cellarerref02_Right at h
  refine W.bind h fun a_244 ha_244 h => ?_
  refine W.call 0 100000 (by kernel_rfl) (cellarerref02_Clean_con ha_244) (by kernel_rfl) ?_
  refine W.cond 0 100000 h (by kernel_rfl) (fun h => ?_) (fun h => ?_)
  ·
    refine W.yes 0 100000 (by kernel_rfl) ?_
    refine W.yes 0 100000 (by kernel_rfl) ?_
    refine W.yes 0 100000 (by kernel_rfl) ?_
    exact W.retT 0 100000 h (by kernel_rfl)
  ·
    refine W.no 0 100000 (by kernel_rfl) ?_
    refine W.no 0 100000 (by kernel_rfl) ?_
    refine W.no 0 100000 (by kernel_rfl) ?_
    exact W.retT 0 100000 h (by kernel_rfl)

theorem cellarerref08_Trigger_con {s_169 : List UInt8} {r : Bool} (h : cellarerref08_Trigger s_169 = some r) : Con Go.Proofs.Tryz.prog 36 [AV.str s_169] [] (cellarerref08_Trigger_res r) (cellarerref08_Trigger_out r) := by
  refine W.con (by kernel_rfl) ?_
  unfold cellarerref08_Trigger at h
  refine W.bind h fun a_189 ha_189 h => ?_
  refine W.call 0 100000 (by kernel_rfl) (cellarerref02_Name_con ha_189) (by kernel_rfl) ?_
  refine W.cond 0 100000 h (by kernel_rfl) (fun h => ?_) (fun h => ?_)
  ·
    refine W.yes 0 100000 (by kernel_rfl) ?_
    refine W.yes 0 100000 (by kernel_rfl) ?_
    exact W.retT 0 100000 h (by kernel_rfl)
  ·
    refine W.no 0 100000 (by kernel_rfl) ?_
    refine W.bind h fun a_247 ha_247 h => ?_
    refine W.call 0 100000 (by kernel_rfl) (cellarerref02_Right_con ha_247) (by kernel_rfl) ?_
    refine W.no 0 100000 (by kernel_rfl) ?_
    exact W.retT 0 100000 h (by kernel_rfl)

theorem cellarerref12_less_con {a_253 : List UInt8} {a_254 : List UInt8} {a_255 : Bool} {b_256 : List UInt8} {b_257 : List UInt8} {b_258 : Bool} {r : Bool} (h : cellarerref12_less a_253 a_254 a_255 b_256 b_257 b_258 = some r) : Con Go.Proofs.Tryz.prog 38 [AV.agg [AV.str a_253, AV.str a_254, AV.bool a_255], AV.agg [AV.str b_256, AV.str b_257, AV.bool b_258]] [] (cellarerref12_less_res r) (cellarerref12_less_out r) := by
  refine W.con (by kernel_rfl) ?_
  unfold cellarerref12_less at h
  refine W.cond 0 100000 h (by kernel_rfl) (fun h => ?_) (fun h => ?_)
  ·
    refine W.yes 0 100000 (by kernel_rfl) ?_
    refine W.yes 0 100000 (by kernel_rfl) ?_
    refine W.yes 0 100000 (by kernel_rfl) ?_
    refine W.yes 0 100000 (by kernel_rfl) ?_
    refine W.yes 0 100000 (by kernel_rfl) ?_
    refine W.yes 0 100000 (by kernel_rfl) ?_
    refine W.yes 0 100000 (by kernel_rfl) ?_
    exact W.retT 0 100000 h (by kernel_rfl)
  ·
    refine W.no 0 100000 (by kernel_rfl) ?_
    refine W.no 0 100000 (by kernel_rfl) ?_
    refine W.no 0 100000 (by kernel_rfl) ?_
    refine W.no 0 100000 (by kernel_rfl) ?_
    refine W.no 0 100000 (by kernel_rfl) ?_
    refine W.cond 0 100000 h (by kernel_rfl) (fun h => ?_) (fun h => ?_)
    ·
      refine W.yes 0 100000 (by kernel_rfl) ?_
      refine W.yes 0 100000 (by kernel_rfl) ?_
      refine W.yes 0 100000 (by kernel_rfl) ?_
      refine W.yes 0 100000 (by kernel_rfl) ?_
      refine W.no 0 100000 (by kernel_rfl) ?_
      refine W.yes 0 100000 (by kernel_rfl) ?_
      refine W.no 0 100000 (by kernel_rfl) ?_
      exact W.retT 0 100000 h (by kernel_rfl)
    ·
      refine W.no 0 100000 (by kernel_rfl) ?_
      refine W.no 0 100000 (by kernel_rfl) ?_
      refine W.no 0 100000 (by kernel_rfl) ?_
      refine W.no 0 100000 (by kernel_rfl) ?_
      refine W.no 0 100000 (by kernel_rfl) ?_
      refine W.no 0 100000 (by kernel_rfl) ?_
      refine W.no 0 100000 (by kernel_rfl) ?_
      exact W.retT 0 100000 h (by kernel_rfl)

theorem cellarerlaw12_Few_con {l_262 : List (List UInt8 × List UInt8 × Bool)} {r : Bool} (h : cellarerlaw12_Few l_262 = some r) : Con Go.Proofs.Tryz.prog 7 [AV.list (Ty.prod Ty.str (Ty.prod Ty.str Ty.bool)) l_262 Bool.false] [] (cellarerlaw12_Few_res r) (cellarerlaw12_Few_out r) := by
  refine W.con (by kernel_rfl) ?_
  unfold cellarerlaw12_Few at h
  refine W.cond 0 100000 h (by kernel_rfl) (fun h => ?_) (fun h => ?_)
  ·
    exact W.retT 0 100000 h (by kernel_rfl)
  ·
    refine W.at 0 100000 [] [0, 3] (c' := (fun (s_271 : Int) => (Cfg.mk Mode.run (headTodo Go.Proofs.Tryz.prog 7 0) (St.mk [AV.list (Ty.prod Ty.str (Ty.prod Ty.str Ty.bool)) l_262 Bool.false, jj, jj, AV.int IntKind.i64 s_271, jj, jj, jj, jj, jj, jj, jj, jj, jj, jj, jj, jj, jj, jj, jj, jj, jj, jj, jj, jj, jj, jj, jj, jj, jj] [] (0 : Nat)))) ((0 : Int))) (by kernel_rfl) ?_
    refine W.loop (fun (s_271 : Int) => (Cfg.mk Mode.run (headTodo Go.Proofs.Tryz.prog 7 0) (St.mk [AV.list (Ty.prod Ty.str (Ty.prod Ty.str Ty.bool)) l_262 Bool.false, jj, jj, AV.int IntKind.i64 s_271, jj, jj, jj, jj, jj, jj, jj, jj, jj, jj, jj, jj, jj, jj, jj, jj, jj, jj, jj, jj, jj, jj, jj, jj, jj] [] (0 : Nat)))) (fun t => (Sum.elim (fun t_265 => r = (Bool.false)) (fun t_266 => Walk Go.Proofs.Tryz.prog 7 (Cfg.mk Mode.run ((headTodo Go.Proofs.Tryz.prog 7 0).drop 3) (St.mk [jj, jj, jj, jj, jj, jj, jj, jj, jj, jj, jj, jj, jj, jj, jj, jj, jj, jj, jj, jj, jj, jj, jj, jj, jj, jj, jj, jj, jj] [] (0 : Nat))) (cellarerlaw12_Few_res r) (cellarerlaw12_Few_out r))) t) h (fun t h => ?_) (fun s_271 x268 h268 K268 => ?_)
    ·
      rcases t with t_265 | t_266
      · replace h := W.inl (h)
        refine W.elimL (?_)
        exact (Option.some.inj h).symm
      · replace h := W.inr (h)
        refine W.elimR (?_)
        exact W.retT 0 100000 h (by kernel_rfl)
    · unfold cellarerlaw12_Few_b0 at h268
      refine W.cond 2 100000 h268 (by kernel_rfl) (fun h268 => ?_) (fun h268 => ?_)
      ·
        refine W.needT 2 100000 h268 (by kernel_rfl) (fun h268 => ?_)
        refine W.cond 2 100000 h268 (by kernel_rfl) (fun h268 => ?_) (fun h268 => ?_)
        ·
          refine W.yes 2 100000 (by kernel_rfl) ?_
          refine W.yes 2 100000 (by kernel_rfl) ?_
          refine W.yes 2 100000 (by kernel_rfl) ?_
          refine W.yes 2 100000 (by kernel_rfl) ?_
          refine W.yes 2 100000 (by kernel_rfl) ?_
          refine W.yes 2 100000 (by kernel_rfl) ?_
          refine W.yes 2 100000 (by kernel_rfl) ?_
          refine W.yes 2 100000 (by kernel_rfl) ?_
          cases h268; exact W.retK 2 100000 K268 (by kernel_rfl)
        ·
          refine W.no 2 100000 (by kernel_rfl) ?_
          refine W.no 2 100000 (by kernel_rfl) ?_
          refine W.needT 2 100000 h268 (by kernel_rfl) (fun h268 => ?_)
          refine W.no 2 100000 (by kernel_rfl) ?_
          refine W.no 2 100000 (by kernel_rfl) ?_
          refine W.no 2 100000 (by kernel_rfl) ?_
          refine W.no 2 100000 (by kernel_rfl) ?_
          refine W.no 2 100000 (by kernel_rfl) ?_
          refine W.cond 2 100000 h268 (by kernel_rfl) (fun h268 => ?_) (fun h268 => ?_)
          ·
            cases h268; exact W.retK 2 100000 K268 (by kernel_rfl)
          ·
            cases h268; exact W.at 2 100000 [] [0, 3] (by kernel_rfl) K268
      ·
        cases h268; exact W.at 2 100000 [] [] (by kernel_rfl) K268

theorem trigs_Check_con {l_274 : List (List UInt8 × List UInt8 × Bool)} {r : Int} (h : trigs_Check l_274 = some r) : Con Go.Proofs.Tryz.prog 11 [AV.list (Ty.prod Ty.str (Ty.prod Ty.str Ty.bool)) l_274 Bool.false] [] (trigs_Check_res r) (trigs_Check_out r) := by
  refine W.con (by kernel_rfl) ?_
  unfold trigs_Check at h
  refine W.cond 0 100000 h (by kernel_rfl) (fun h => ?_) (fun h => ?_)
  ·
    exact W.retT 0 100000 h (by kernel_rfl)
  ·
    refine W.at 0 100000 [] [0, 8, 9, 10] (c' := (fun (s_288 : Int) => (Cfg.mk Mode.run (headTodo Go.Proofs.Tryz.prog 11 0) (St.mk [AV.list (Ty.prod Ty.str (Ty.prod Ty.str Ty.bool)) l_274 Bool.false, jj, jj, jj, jj, jj, jj, jj, AV.list (Ty.prod Ty.str (Ty.prod Ty.str Ty.bool)) l_274 Bool.false, AV.int IntKind.i64 (↑(List.length l_274) : Int), AV.int IntKind.i64 s_288, jj, jj, jj, jj, jj, jj, jj, jj, jj, jj, jj, jj, jj, jj, jj, jj, jj, jj, jj, jj, jj, jj, jj, jj, jj, jj, jj, jj, jj] [] (0 : Nat)))) ((0 : Int))) (by kernel_rfl) ?_
    refine W.loop (fun (s_288 : Int) => (Cfg.mk Mode.run (headTodo Go.Proofs.Tryz.prog 11 0) (St.mk [AV.list (Ty.prod Ty.str (Ty.prod Ty.str Ty.bool)) l_274 Bool.false, jj, jj, jj, jj, jj, jj, jj, AV.list (Ty.prod Ty.str (Ty.prod Ty.str Ty.bool)) l_274 Bool.false, AV.int IntKind.i64 (↑(List.length l_274) : Int), AV.int IntKind.i64 s_288, jj, jj, jj, jj, jj, jj, jj, jj, jj, jj, jj, jj, jj, jj, jj, jj, jj, jj, jj, jj, jj, jj, jj, jj, jj, jj, jj, jj, jj] [] (0 : Nat)))) (fun t => (Sum.elim (fun t_282 => r = ((1 : Int))) (fun t_283 => Walk Go.Proofs.Tryz.prog 11 (Cfg.mk Mode.run ((headTodo Go.Proofs.Tryz.prog 11 0).drop 3) (St.mk [jj, jj, jj, jj, jj, jj, jj, jj, jj, jj, jj, jj, jj, jj, jj, jj, jj, jj, jj, jj, jj, jj, jj, jj, jj, jj, jj, jj, jj, jj, jj, jj, jj, jj, jj, jj, jj, jj, jj, jj] [] (0 : Nat))) (trigs_Check_res r) (trigs_Check_out r))) t) h (fun t h => ?_) (fun s_288 x285 h285 K285 => ?_)
    ·
      rcases t with t_282 | t_283
      · replace h := W.inl (h)
        refine W.elimL (?_)
        exact (Option.some.inj h).symm
      · replace h := W.inr (h)
        refine W.elimR (?_)
        exact W.retT 0 100000 h (by kernel_rfl)
    · unfold trigs_Check_b0 at h285
      refine W.cond 2 100000 h285 (by kernel_rfl) (fun h285 => ?_) (fun h285 => ?_)
      ·
        refine W.needT 2 100000 h285 (by kernel_rfl) (fun h285 => ?_)
        refine W.bind h285 fun a_279 ha_279 h285 => ?_
        refine W.call 2 100000 (by kernel_rfl) (status_Trigger_con ha_279) (by kernel_rfl) ?_
        refine W.cond 2 100000 h285 (by kernel_rfl) (fun h285 => ?_) (fun h285 => ?_)
        ·
          refine W.yes 2 100000 (by kernel_rfl) ?_
          refine W.yes 2 100000 (by kernel_rfl) ?_
          refine W.yes 2 100000 (by kernel_rfl) ?_
          refine W.yes 2 100000 (by kernel_rfl) ?_
          refine W.yes 2 100000 (by kernel_rfl) ?_
          refine W.yes 2 100000 (by kernel_rfl) ?_
          refine W.yes 2 100000 (by kernel_rfl) ?_
          refine W.yes 2 100000 (by kernel_rfl) ?_
          refine W.yes 2 100000 (by kernel_rfl) ?_
          refine W.yes 2 100000 (by kernel_rfl) ?_
          cases h285; exact W.retK 2 100000 K285 (by kernel_rfl)
        ·
          refine W.no 2 100000 (by kernel_rfl) ?_
          refine W.no 2 100000 (by kernel_rfl) ?_
          refine W.bind h285 fun a_280 ha_280 h285 => ?_
          refine W.call 2 100000 (by kernel_rfl) (path_Name_con ha_280) (by kernel_rfl) ?_
          refine W.no 2 100000 (by kernel_rfl) ?_
          refine W.no 2 100000 (by kernel_rfl) ?_
          refine W.cond 2 100000 h285 (by kernel_rfl) (fun h285 => ?_) (fun h285 => ?_)
          ·
            refine W.yes 2 100000 (by kernel_rfl) ?_
            refine W.yes 2 100000 (by kernel_rfl) ?_
            refine W.yes 2 100000 (by kernel_rfl) ?_
            refine W.yes 2 100000 (by kernel_rfl) ?_
            refine W.yes 2 100000 (by kernel_rfl) ?_
            cases h285; exact W.retK 2 100000 K285 (by kernel_rfl)
          ·
            refine W.no 2 100000 (by kernel_rfl) ?_
            refine W.no 2 100000 (by kernel_rfl) ?_
            refine W.cond 2 100000 h285 (by kernel_rfl) (fun h285 => ?_) (fun h285 => ?_)
            ·
              refine W.yes 2 100000 (by kernel_rfl) ?_
              refine W.yes 2 100000 (by kernel_rfl) ?_
              refine W.yes 2 100000 (by kernel_rfl) ?_
              refine W.needT 2 100000 h285 (by kernel_rfl) (fun h285 => ?_)
              refine W.yes 2 100000 (by kernel_rfl) ?_
              refine W.yes 2 100000 (by kernel_rfl) ?_
              refine W.yes 2 100000 (by kernel_rfl) ?_
              refine W.bind h285 fun a_281 ha_281 h285 => ?_
              refine W.call 2 100000 (by kernel_rfl) (trigs_compare_con ha_281) (by kernel_rfl) ?_
              refine W.yes 2 100000 (by kernel_rfl) ?_
              refine W.no 2 100000 (by kernel_rfl) ?_
              refine W.yes 2 100000 (by kernel_rfl) ?_
              refine W.no 2 100000 (by kernel_rfl) ?_
              refine W.cond 2 100000 h285 (by kernel_rfl) (fun h285 => ?_) (fun h285 => ?_)
              ·
                cases h285; exact W.retK 2 100000 K285 (by kernel_rfl)
              ·
                cases h285; exact W.at 2 100000 [] [0, 8, 9, 10] (by kernel_rfl) K285
            ·
              refine W.no 2 100000 (by kernel_rfl) ?_
              refine W.no 2 100000 (by kernel_rfl) ?_
              refine W.no 2 100000 (by kernel_rfl) ?_
              refine W.no 2 100000 (by kernel_rfl) ?_
              refine W.no 2 100000 (by kernel_rfl) ?_
              refine W.no 2 100000 (by kernel_rfl) ?_
              refine W.no 2 100000 (by kernel_rfl) ?_
              refine W.no 2 100000 (by kernel_rfl) ?_
              refine W.no 2 100000 (by kernel_rfl) ?_
              refine W.no 2 100000 (by kernel_rfl) ?_
              refine W.no 2 100000 (by kernel_rfl) ?_
              cases h285; exact W.at 2 100000 [] [0, 8, 9, 10] (by kernel_rfl) K285
      ·
        cases h285; exact W.at 2 100000 [] [] (by kernel_rfl) K285

theorem trigs_Print_con {l_273 : List (List UInt8 × List UInt8 × Bool)} {r : List UInt8 × Int} (h : trigs_Print l_273 = some r) : Con Go.Proofs.Tryz.prog 9 [AV.list (Ty.prod Ty.str (Ty.prod Ty.str Ty.bool)) l_273 Bool.false] [] (trigs_Print_res r) (trigs_Print_out r) := by
  refine W.con (by kernel_rfl) ?_
  unfold trigs_Print at h
  refine W.bind h fun a_289 ha_289 h => ?_
  refine W.call 0 100000 (by kernel_rfl) (trigs_Check_con ha_289) (by kernel_rfl) ?_
  refine W.cond 0 100000 h (by kernel_rfl) (fun h => ?_) (fun h => ?_)
  ·
    exact W.retT 0 100000 h (by kernel_rfl)
  ·
    refine W.at 0 100000 [] [5, 13, 14, 15] (c' := (fun (s_301 : List UInt8 × Int) => (Cfg.mk Mode.run (headTodo Go.Proofs.Tryz.prog 9 0) (St.mk [jj, jj, jj, jj, jj, AV.str (Prod.fst s_301), jj, jj, jj, jj, jj, jj, jj, AV.list (Ty.prod Ty.str (Ty.prod Ty.str Ty.bool)) l_273 Bool.false, AV.int IntKind.i64 (↑(List.length l_273) : Int), AV.int IntKind.i64 (Prod.snd s_301), jj, jj, jj, jj, jj, jj, jj, jj, jj, jj, jj, jj, jj, jj, jj, jj, jj, jj, jj] [] (0 : Nat)))) ([], (0 : Int))) (by kernel_rfl) ?_
    refine W.loop (fun (s_301 : List UInt8 × Int) => (Cfg.mk Mode.run (headTodo Go.Proofs.Tryz.prog 9 0) (St.mk [jj, jj, jj, jj, jj, AV.str (Prod.fst s_301), jj, jj, jj, jj, jj, jj, jj, AV.list (Ty.prod Ty.str (Ty.prod Ty.str Ty.bool)) l_273 Bool.false, AV.int IntKind.i64 (↑(List.length l_273) : Int), AV.int IntKind.i64 (Prod.snd s_301), jj, jj, jj, jj, jj, jj, jj, jj, jj, jj, jj, jj, jj, jj, jj, jj, jj, jj, jj] [] (0 : Nat)))) (fun t_295 => Walk Go.Proofs.Tryz.prog 9 (Cfg.mk Mode.run ((headTodo Go.Proofs.Tryz.prog 9 0).drop 3) (St.mk [jj, jj, jj, jj, jj, AV.str t_295, jj, jj, jj, jj, jj, jj, jj, jj, jj, jj, jj, jj, jj, jj, jj, jj, jj, jj, jj, jj, jj, jj, jj, jj, jj, jj, jj, jj, jj] [] (0 : Nat))) (trigs_Print_res r) (trigs_Print_out r)) h (fun t_295 h => ?_) (fun s_301 x297 h297 K297 => ?_)
    ·
      exact W.retT 0 100000 h (by kernel_rfl)
    · unfold trigs_Print_b0 at h297
      refine W.cond 2 100000 h297 (by kernel_rfl) (fun h297 => ?_) (fun h297 => ?_)
      ·
        refine W.needT 2 100000 h297 (by kernel_rfl) (fun h297 => ?_)
        refine W.needT 2 100000 h297 (by kernel_rfl) (fun h297 => ?_)
        refine W.needT 2 100000 h297 (by kernel_rfl) (fun h297 => ?_)
        refine W.needT 2 100000 h297 (by kernel_rfl) (fun h297 => ?_)
        refine W.cond 2 100000 h297 (by kernel_rfl) (fun h297 => ?_) (fun h297 => ?_)
        ·
          refine W.needT 2 100000 h297 (by kernel_rfl) (fun h297 => ?_)
          refine W.needT 2 100000 h297 (by kernel_rfl) (fun h297 => ?_)
          cases h297; exact W.at 2 100000 [] [5, 13, 14, 15] (by kernel_rfl) K297
        ·
          refine W.needT 2 100000 h297 (by kernel_rfl) (fun h297 => ?_)
          cases h297; exact W.at 2 100000 [] [5, 13, 14, 15] (by kernel_rfl) K297
      ·
        cases h297; exact W.at 2 100000 [] [5] (by kernel_rfl) K297

theorem cellarerref12_Check_con {l_304 : List (List UInt8 × List UInt8 × Bool)} {r : Int} (h : cellarerref12_Check l_304 = some r) : Con Go.Proofs.Tryz.prog 12 [AV.list (Ty.prod Ty.str (Ty.prod Ty.str Ty.bool)) l_304 Bool.false] [] (cellarerref12_Check_res r) (cellarerref12_Check_out r) := by
  refine W.con (by kernel_rfl) ?_
  unfold cellarerref12_Check at h
  refine W.cond 0 100000 h (by kernel_rfl) (fun h => ?_) (fun h => ?_)
  ·
    exact W.retT 0 100000 h (by kernel_rfl)
  ·
    refine W.at 0 100000 [] [0, 3] (c' := (fun (s_316 : Int) => (Cfg.mk Mode.run (headTodo Go.Proofs.Tryz.prog 12 0) (St.mk [AV.list (Ty.prod Ty.str (Ty.prod Ty.str Ty.bool)) l_304 Bool.false, jj, jj, AV.int IntKind.i64 s_316, jj, jj, jj, jj, jj, jj, jj, jj, jj, jj, jj, jj, jj, jj, jj, jj, jj, jj, jj, jj, jj, jj, jj, jj, jj, jj, jj, jj, jj, jj, jj, jj, jj, jj, jj, jj, jj, jj, jj, jj, jj, jj] [] (0 : Nat)))) ((0 : Int))) (by kernel_rfl) ?_
    refine W.loop (fun (s_316 : Int) => (Cfg.mk Mode.run (headTodo Go.Proofs.Tryz.prog 12 0) (St.mk [AV.list (Ty.prod Ty.str (Ty.prod Ty.str Ty.bool)) l_304 Bool.false, jj, jj, AV.int IntKind.i64 s_316, jj, jj, jj, jj, jj, jj, jj, jj, jj, jj, jj, jj, jj, jj, jj, jj, jj, jj, jj, jj, jj, jj, jj, jj, jj, jj, jj, jj, jj, jj, jj, jj, jj, jj, jj, jj, jj, jj, jj, jj, jj, jj] [] (0 : Nat)))) (fun t => (Sum.elim (fun t_310 => r = ((1 : Int))) (fun t_311 => Walk Go.Proofs.Tryz.prog 12 (Cfg.mk Mode.run ((headTodo Go.Proofs.Tryz.prog 12 0).drop 3) (St.mk [jj, jj, jj, jj, jj, jj, jj, jj, jj, jj, jj, jj, jj, jj, jj, jj, jj, jj, jj, jj, jj, jj, jj, jj, jj, jj, jj, jj, jj, jj, jj, jj, jj, jj, jj, jj, jj, jj, jj, jj, jj, jj, jj, jj, jj, jj] [] (0 : Nat))) (cellarerref12_Check_res r) (cellarerref12_Check_out r))) t) h (fun t h => ?_) (fun s_316 x313 h313 K313 => ?_)
    ·
      rcases t with t_310 | t_311
      · replace h := W.inl (h)
        refine W.elimL (?_)
        exact (Option.some.inj h).symm
      · replace h := W.inr (h)
        refine W.elimR (?_)
        exact W.retT 0 100000 h (by kernel_rfl)
    · unfold cellarerref12_Check_b0 at h313
      refine W.cond 2 100000 h313 (by kernel_rfl) (fun h313 => ?_) (fun h313 => ?_)
      ·
        refine W.needT 2 100000 h313 (by kernel_rfl) (fun h313 => ?_)
        refine W.bind h313 fun a_307 ha_307 h313 => ?_
        refine W.call 2 100000 (by kernel_rfl) (cellarerref08_Trigger_con ha_307) (by kernel_rfl) ?_
        refine W.cond 2 100000 h313 (by kernel_rfl) (fun h313 => ?_) (fun h313 => ?_)
        ·
          refine W.yes 2 100000 (by kernel_rfl) ?_
          refine W.yes 2 100000 (by kernel_rfl) ?_
          refine W.yes 2 100000 (by kernel_rfl) ?_
          refine W.yes 2 100000 (by kernel_rfl) ?_
          refine W.yes 2 100000 (by kernel_rfl) ?_
          refine W.yes 2 100000 (by kernel_rfl) ?_
          refine W.yes 2 100000 (by kernel_rfl) ?_
          refine W.yes 2 100000 (by kernel_rfl) ?_
          refine W.yes 2 100000 (by kernel_rfl) ?_
          refine W.yes 2 100000 (by kernel_rfl) ?_
          refine W.yes 2 100000 (by kernel_rfl) ?_
          refine W.yes 2 100000 (by kernel_rfl) ?_
          refine W.yes 2 100000 (by kernel_rfl) ?_
          cases h313; exact W.retK 2 100000 K313 (by kernel_rfl)
        ·
          refine W.no 2 100000 (by kernel_rfl) ?_
          refine W.no 2 100000 (by kernel_rfl) ?_
          refine W.needT 2 100000 h313 (by kernel_rfl) (fun h313 => ?_)
          refine W.no 2 100000 (by kernel_rfl) ?_
          refine W.no 2 100000 (by kernel_rfl) ?_
          refine W.no 2 100000 (by kernel_rfl) ?_
          refine W.bind h313 fun a_308 ha_308 h313 => ?_
          refine W.call 2 100000 (by kernel_rfl) (cellarerref02_Name_con ha_308) (by kernel_rfl) ?_
          refine W.no 2 100000 (by kernel_rfl) ?_
          refine W.no 2 100000 (by kernel_rfl) ?_
          refine W.cond 2 100000 h313 (by kernel_rfl) (fun h313 => ?_) (fun h313 => ?_)
          ·
            refine W.yes 2 100000 (by kernel_rfl) ?_
            refine W.yes 2 100000 (by kernel_rfl) ?_
            refine W.yes 2 100000 (by kernel_rfl) ?_
            refine W.yes 2 100000 (by kernel_rfl) ?_
            refine W.yes 2 100000 (by kernel_rfl) ?_
            cases h313; exact W.retK 2 100000 K313 (by kernel_rfl)
          ·
            refine W.no 2 100000 (by kernel_rfl) ?_
            refine W.no 2 100000 (by kernel_rfl) ?_
            refine W.cond 2 100000 h313 (by kernel_rfl) (fun h313 => ?_) (fun h313 => ?_)
            ·
              refine W.yes 2 100000 (by kernel_rfl) ?_
              refine W.yes 2 100000 (by kernel_rfl) ?_
              refine W.yes 2 100000 (by kernel_rfl) ?_
              refine W.needT 2 100000 h313 (by kernel_rfl) (fun h313 => ?_)
              refine W.yes 2 100000 (by kernel_rfl) ?_
              refine W.yes 2 100000 (by kernel_rfl) ?_
              refine W.yes 2 100000 (by kernel_rfl) ?_
              refine W.yes 2 100000 (by kernel_rfl) ?_
              refine W.needT 2 100000 h313 (by kernel_rfl) (fun h313 => ?_)
              refine W.yes 2 100000 (by kernel_rfl) ?_
              refine W.yes 2 100000 (by kernel_rfl) ?_
              refine W.bind h313 fun a_309 ha_309 h313 => ?_
              refine W.call 2 100000 (by kernel_rfl) (cellarerref12_less_con ha_309) (by kernel_rfl) ?_
              refine W.yes 2 100000 (by kernel_rfl) ?_
              refine W.no 2 100000 (by kernel_rfl) ?_
              refine W.yes 2 100000 (by kernel_rfl) ?_
              refine W.no 2 100000 (by kernel_rfl) ?_
              refine W.cond 2 100000 h313 (by kernel_rfl) (fun h313 => ?_) (fun h313 => ?_)
              ·
                cases h313; exact W.retK 2 100000 K313 (by kernel_rfl)
              ·
                cases h313; exact W.at 2 100000 [] [0, 3] (by kernel_rfl) K313
            ·
              refine W.no 2 100000 (by kernel_rfl) ?_
              refine W.no 2 100000 (by kernel_rfl) ?_
              refine W.no 2 100000 (by kernel_rfl) ?_
              refine W.no 2 100000 (by kernel_rfl) ?_
              refine W.no 2 100000 (by kernel_rfl) ?_
              refine W.no 2 100000 (by kernel_rfl) ?_
              refine W.no 2 100000 (by kernel_rfl) ?_
              refine W.no 2 100000 (by kernel_rfl) ?_
              refine W.no 2 100000 (by kernel_rfl) ?_
              refine W.no 2 100000 (by kernel_rfl) ?_
              refine W.no 2 100000 (by kernel_rfl) ?_
              refine W.no 2 100000 (by kernel_rfl) ?_
              refine W.no 2 100000 (by kernel_rfl) ?_
              refine W.no 2 100000 (by kernel_rfl) ?_
              cases h313; exact W.at 2 100000 [] [0, 3] (by kernel_rfl) K313
      ·
        cases h313; exact W.at 2 100000 [] [] (by kernel_rfl) K313

theorem cellarerref12_Print_con {l_303 : List (List UInt8 × List UInt8 × Bool)} {r : List UInt8 × Int} (h : cellarerref12_Print l_303 = some r) : Con Go.Proofs.Tryz.prog 10 [AV.list (Ty.prod Ty.str (Ty.prod Ty.str Ty.bool)) l_303 Bool.false] [] (cellarerref12_Print_res r) (cellarerref12_Print_out r) := by
  refine W.con (by kernel_rfl) ?_
  unfold cellarerref12_Print at h
  refine W.bind h fun a_317 ha_317 h => ?_
  refine W.call 0 100000 (by kernel_rfl) (cellarerref12_Check_con ha_317) (by kernel_rfl) ?_
  refine W.cond 0 100000 h (by kernel_rfl) (fun h => ?_) (fun h => ?_)
  ·
    exact W.retT 0 100000 h (by kernel_rfl)
  ·
    refine W.at 0 100000 [] [0, 5, 6] (c' := (fun (s_328 : List UInt8 × Int) => (Cfg.mk Mode.run (headTodo Go.Proofs.Tryz.prog 10 0) (St.mk [AV.list (Ty.prod Ty.str (Ty.prod Ty.str Ty.bool)) l_303 Bool.false, jj, jj, jj, jj, AV.str (Prod.fst s_328), AV.int IntKind.i64 (Prod.snd s_328), jj, jj, jj, jj, jj, jj, jj, jj, jj, jj, jj, jj, jj, jj, jj, jj, jj, jj, jj, jj, jj, jj, jj, jj, jj, jj, jj, jj, jj, jj, jj, jj, jj, jj, jj] [] (0 : Nat)))) ([], (0 : Int))) (by kernel_rfl) ?_
    refine W.loop (fun (s_328 : List UInt8 × Int) => (Cfg.mk Mode.run (headTodo Go.Proofs.Tryz.prog 10 0) (St.mk [AV.list (Ty.prod Ty.str (Ty.prod Ty.str Ty.bool)) l_303 Bool.false, jj, jj, jj, jj, AV.str (Prod.fst s_328), AV.int IntKind.i64 (Prod.snd s_328), jj, jj, jj, jj, jj, jj, jj, jj, jj, jj, jj, jj, jj, jj, jj, jj, jj, jj, jj, jj, jj, jj, jj, jj, jj, jj, jj, jj, jj, jj, jj, jj, jj, jj, jj] [] (0 : Nat)))) (fun t_322 => Walk Go.Proofs.Tryz.prog 10 (Cfg.mk Mode.run ((headTodo Go.Proofs.Tryz.prog 10 0).drop 3) (St.mk [jj, jj, jj, jj, jj, AV.str t_322, jj, jj, jj, jj, jj, jj, jj, jj, jj, jj, jj, jj, jj, jj, jj, jj, jj, jj, jj, jj, jj, jj, jj, jj, jj, jj, jj, jj, jj, jj, jj, jj, jj, jj, jj, jj] [] (0 : Nat))) (cellarerref12_Print_res r) (cellarerref12_Print_out r)) h (fun t_322 h => ?_) (fun s_328 x324 h324 K324 => ?_)
    ·
      exact W.retT 0 100000 h (by kernel_rfl)
    · unfold cellarerref12_Print_b0 at h324
      refine W.cond 2 100000 h324 (by kernel_rfl) (fun h324 => ?_) (fun h324 => ?_)
      ·
        refine W.needT 2 100000 h324 (by kernel_rfl) (fun h324 => ?_)
        refine W.needT 2 100000 h324 (by kernel_rfl) (fun h324 => ?_)
        refine W.needT 2 100000 h324 (by kernel_rfl) (fun h324 => ?_)
        refine W.needT 2 100000 h324 (by kernel_rfl) (fun h324 => ?_)
        refine W.needT 2 100000 h324 (by kernel_rfl) (fun h324 => ?_)
        refine W.needT 2 100000 h324 (by kernel_rfl) (fun h324 => ?_)
        refine W.cond 2 100000 h324 (by kernel_rfl) (fun h324 => ?_) (fun h324 => ?_)
        ·
          refine W.needT 2 100000 h324 (by kernel_rfl) (fun h324 => ?_)
          refine W.needT 2 100000 h324 (by kernel_rfl) (fun h324 => ?_)
          cases h324; exact W.at 2 100000 [] [0, 5, 6] (by kernel_rfl) K324
        ·
          refine W.needT 2 100000 h324 (by kernel_rfl) (fun h324 => ?_)
          cases h324; exact W.at 2 100000 [] [0, 5, 6] (by kernel_rfl) K324
      ·
        cases h324; exact W.at 2 100000 [] [5] (by kernel_rfl) K324

theorem stringslite_HasSuffix_con {s_336 : List UInt8} {suffix_337 : List UInt8} {r : Bool} (h : stringslite_HasSuffix s_336 suffix_337 = some r) : Con Go.Proofs.Tryz.prog 89 [AV.str s_336, AV.str suffix_337] [] (stringslite_HasSuffix_res r) (stringslite_HasSuffix_out r) := by
  refine W.con (by kernel_rfl) ?_
  unfold stringslite_HasSuffix at h
  refine W.cond 0 100000 h (by kernel_rfl) (fun h => ?_) (fun h => ?_)
  ·
    refine W.yes 0 100000 (by kernel_rfl) ?_
    refine W.yes 0 100000 (by kernel_rfl) ?_
    refine W.yes 0 100000 (by kernel_rfl) ?_
    refine W.yes 0 100000 (by kernel_rfl) ?_
    refine W.yes 0 100000 (by kernel_rfl) ?_
    refine W.yes 0 100000 (by kernel_rfl) ?_
    refine W.needT 0 100000 h (by kernel_rfl) (fun h => ?_)
    refine W.yes 0 100000 (by kernel_rfl) ?_
    refine W.yes 0 100000 (by kernel_rfl) ?_
    refine W.yes 0 100000 (by kernel_rfl) ?_
    exact W.retT 0 100000 h (by kernel_rfl)
  ·
    refine W.no 0 100000 (by kernel_rfl) ?_
    refine W.no 0 100000 (by kernel_rfl) ?_
    refine W.no 0 100000 (by kernel_rfl) ?_
    refine W.no 0 100000 (by kernel_rfl) ?_
    refine W.no 0 100000 (by kernel_rfl) ?_
    refine W.no 0 100000 (by kernel_rfl) ?_
    refine W.no 0 100000 (by kernel_rfl) ?_
    refine W.no 0 100000 (by kernel_rfl) ?_
    refine W.no 0 100000 (by kernel_rfl) ?_
    exact W.retT 0 100000 h (by kernel_rfl)

theorem strings_HasSuffix_con {s_334 : List UInt8} {suffix_335 : List UInt8} {r : Bool} (h : strings_HasSuffix s_334 suffix_335 = some r) : Con Go.Proofs.Tryz.prog 71 [AV.str s_334, AV.str suffix_335] [] (strings_HasSuffix_res r) (strings_HasSuffix_out r) := by
  refine W.con (by kernel_rfl) ?_
  unfold strings_HasSuffix at h
  refine W.bind h fun a_340 ha_340 h => ?_
  refine W.call 0 100000 (by kernel_rfl) (stringslite_HasSuffix_con ha_340) (by kernel_rfl) ?_
  exact W.retT 0 100000 h (by kernel_rfl)

theorem stanza_Lines_con {s_333 : List UInt8} {r : Int × List (List UInt8)} (h : stanza_Lines s_333 = some r) : Con Go.Proofs.Tryz.prog 39 [AV.str s_333] [] (stanza_Lines_res r) (stanza_Lines_out r) := by
  refine W.con (by kernel_rfl) ?_
  unfold stanza_Lines at h
  refine W.cond 0 100000 h (by kernel_rfl) (fun h => ?_) (fun h => ?_)
  ·
    exact W.retT 0 100000 h (by kernel_rfl)
  ·
    refine W.bind h fun a_343 ha_343 h => ?_
    refine W.call 0 100000 (by kernel_rfl) (strings_HasSuffix_con ha_343) (by kernel_rfl) ?_
    refine W.cond 0 100000 h (by kernel_rfl) (fun h => ?_) (fun h => ?_)
    ·
      exact W.retT 0 100000 h (by kernel_rfl)
    ·
      refine W.needT 0 100000 h (by kernel_rfl) (fun h => ?_)
      refine W.bind h fun a_344 ha_344 h => ?_
      refine W.call 0 100000 (by kernel_rfl) (strings_Split_con ha_344) (by kernel_rfl) ?_
      exact W.retT 0 100000 h (by kernel_rfl)

theorem stringslite_Cut_con {s_354 : List UInt8} {sep_355 : List UInt8} {r : List UInt8 × List UInt8 × Bool} (h : stringslite_Cut s_354 sep_355 = some r) : Con Go.Proofs.Tryz.prog 72 [AV.str s_354, AV.str sep_355] [] (stringslite_Cut_res r) (stringslite_Cut_out r) := by
  refine W.con (by kernel_rfl) ?_
  unfold stringslite_Cut at h
  refine W.bind h fun a_356 ha_356 h => ?_
  refine W.call 0 100000 (by kernel_rfl) (stringslite_Index_con ha_356) (by kernel_rfl) ?_
  refine W.cond 0 100000 h (by kernel_rfl) (fun h => ?_) (fun h => ?_)
  ·
    refine W.needT 0 100000 h (by kernel_rfl) (fun h => ?_)
    refine W.needT 0 100000 h (by kernel_rfl) (fun h => ?_)
    exact W.retT 0 100000 h (by kernel_rfl)
  ·
    exact W.retT 0 100000 h (by kernel_rfl)

theorem strings_Cut_con {s_352 : List UInt8} {sep_353 : List UInt8} {r : List UInt8 × List UInt8 × Bool} (h : strings_Cut s_352 sep_353 = some r) : Con Go.Proofs.Tryz.prog 40 [AV.str s_352, AV.str sep_353] [] (strings_Cut_res r) (strings_Cut_out r) := by
  refine W.con (by kernel_rfl) ?_
  unfold strings_Cut at h
  refine W.bind h fun a_361 ha_361 h => ?_
  refine W.call 0 100000 (by kernel_rfl) (stringslite_Cut_con ha_361) (by kernel_rfl) ?_
  exact W.retT 0 100000 h (by kernel_rfl)

theorem stringslite_CutSuffix_con {s_369 : List UInt8} {suffix_370 : List UInt8} {r : List UInt8 × Bool} (h : stringslite_CutSuffix s_369 suffix_370 = some r) : Con Go.Proofs.Tryz.prog 73 [AV.str s_369, AV.str suffix_370] [] (stringslite_CutSuffix_res r) (stringslite_CutSuffix_out r) := by
  refine W.con (by kernel_rfl) ?_
  unfold stringslite_CutSuffix at h
  refine W.bind h fun a_371 ha_371 h => ?_
  refine W.call 0 100000 (by kernel_rfl) (stringslite_HasSuffix_con ha_371) (by kernel_rfl) ?_
  refine W.cond 0 100000 h (by kernel_rfl) (fun h => ?_) (fun h => ?_)
  ·
    exact W.retT 0 100000 h (by kernel_rfl)
  ·
    refine W.needT 0 100000 h (by kernel_rfl) (fun h => ?_)
    exact W.retT 0 100000 h (by kernel_rfl)

theorem strings_CutSuffix_con {s_367 : List UInt8} {suffix_368 : List UInt8} {r : List UInt8 × Bool} (h : strings_CutSuffix s_367 suffix_368 = some r) : Con Go.Proofs.Tryz.prog 41 [AV.str s_367, AV.str suffix_368] [] (strings_CutSuffix_res r) (strings_CutSuffix_out r) := by
  refine W.con (by kernel_rfl) ?_
  unfold strings_CutSuffix at h
  refine W.bind h fun a_375 ha_375 h => ?_
  refine W.call 0 100000 (by kernel_rfl) (stringslite_CutSuffix_con ha_375) (by kernel_rfl) ?_
  exact W.retT 0 100000 h (by kernel_rfl)

theorem trigs_Parse_con {s_332 : List UInt8} {r : Int × List (List UInt8 × List UInt8 × Bool)} (h : trigs_Parse s_332 = some r) : Con Go.Proofs.Tryz.prog 13 [AV.str s_332] [] (trigs_Parse_res r) (trigs_Parse_out r) := by
  refine W.con (by kernel_rfl) ?_
  unfold trigs_Parse at h
  refine W.bind h fun a_348 ha_348 h => ?_
  refine W.call 0 100000 (by kernel_rfl) (stanza_Lines_con ha_348) (by kernel_rfl) ?_
  refine W.cond 0 100000 h (by kernel_rfl) (fun h => ?_) (fun h => ?_)
  ·
    exact W.retT 0 100000 h (by kernel_rfl)
  ·
    refine W.at 0 100000 [Co.own 6 (Ty.prod Ty.str (Ty.prod Ty.str Ty.bool))] [6, 21, 22, 23] (c' := (fun (s_394 : Int × List (List UInt8 × List UInt8 × Bool)) => (Cfg.mk Mode.run (headTodo Go.Proofs.Tryz.prog 13 0) (St.mk [jj, jj, jj, jj, jj, jj, AV.view (0 : Nat) (0 : Nat) Option.none, jj, jj, jj, jj, jj, jj, jj, jj, jj, jj, jj, jj, jj, jj, AV.view (1 : Nat) (0 : Nat) Option.none, AV.int IntKind.i64 ((↑(List.length (Prod.snd a_348)) : Int) - (↑(0 : Nat) : Int)), AV.int IntKind.i64 (Prod.fst s_394), jj, jj, jj, jj, jj, jj, jj, jj, jj, jj, jj, jj, jj, jj, jj, jj, jj, jj, jj, jj, jj, jj, jj, jj, jj, jj] [AO.row (Ty.prod Ty.str (Ty.prod Ty.str Ty.bool)) (Prod.snd s_394), AO.row Ty.str (Prod.snd a_348)] (0 : Nat)))) ((0 : Int), [])) (by kernel_rfl) ?_
    refine W.loop (fun (s_394 : Int × List (List UInt8 × List UInt8 × Bool)) => (Cfg.mk Mode.run (headTodo Go.Proofs.Tryz.prog 13 0) (St.mk [jj, jj, jj, jj, jj, jj, AV.view (0 : Nat) (0 : Nat) Option.none, jj, jj, jj, jj, jj, jj, jj, jj, jj, jj, jj, jj, jj, jj, AV.view (1 : Nat) (0 : Nat) Option.none, AV.int IntKind.i64 ((↑(List.length (Prod.snd a_348)) : Int) - (↑(0 : Nat) : Int)), AV.int IntKind.i64 (Prod.fst s_394), jj, jj, jj, jj, jj, jj, jj, jj, jj, jj, jj, jj, jj, jj, jj, jj, jj, jj, jj, jj, jj, jj, jj, jj, jj, jj] [AO.row (Ty.prod Ty.str (Ty.prod Ty.str Ty.bool)) (Prod.snd s_394), AO.row Ty.str (Prod.snd a_348)] (0 : Nat)))) (fun t_387 => Walk Go.Proofs.Tryz.prog 13 (Cfg.mk Mode.run ((headTodo Go.Proofs.Tryz.prog 13 0).drop 3) (St.mk [jj, jj, jj, jj, jj, jj, AV.view (0 : Nat) (0 : Nat) Option.none, jj, jj, jj, jj, jj, jj, jj, jj, jj, jj, jj, jj, jj, jj, jj, jj, jj, jj, jj, jj, jj, jj, jj, jj, jj, jj, jj, jj, jj, jj, jj, jj, jj, jj, jj, jj, jj, jj, jj, jj, jj, jj, jj] [AO.row (Ty.prod Ty.str (Ty.prod Ty.str Ty.bool)) t_387] (0 : Nat))) (trigs_Parse_res r) (trigs_Parse_out r)) h (fun t_387 h => ?_) (fun s_394 x390 h390 K390 => ?_)
    ·
      refine W.bind h fun a_388 ha_388 h => ?_
      refine W.call 0 100000 (by kernel_rfl) (trigs_Check_con ha_388) (by kernel_rfl) ?_
      refine W.cond 0 100000 h (by kernel_rfl) (fun h => ?_) (fun h => ?_)
      ·
        exact W.retT 0 100000 h (by kernel_rfl)
      ·
        exact W.retT 0 100000 h (by kernel_rfl)
    · unfold trigs_Parse_b0 at h390
      refine W.cond 2 100000 h390 (by kernel_rfl) (fun h390 => ?_) (fun h390 => ?_)
      ·
        refine W.needT 2 100000 h390 (by kernel_rfl) (fun h390 => ?_)
        refine W.needT 2 100000 h390 (by kernel_rfl) (fun h390 => ?_)
        refine W.bind h390 fun a_384 ha_384 h390 => ?_
        refine W.call 2 100000 (by kernel_rfl) (strings_Cut_con ha_384) (by kernel_rfl) ?_
        refine W.bind h390 fun a_385 ha_385 h390 => ?_
        refine W.call 2 100000 (by kernel_rfl) (strings_CutSuffix_con ha_385) (by kernel_rfl) ?_
        refine W.needT 2 100000 h390 (by kernel_rfl) (fun h390 => ?_)
        cases h390; exact W.at 2 100000 [Co.own 6 (Ty.prod Ty.str (Ty.prod Ty.str Ty.bool))] [6, 21, 22, 23] (by kernel_rfl) K390
      ·
        cases h390; exact W.at 2 100000 [] [6] (by kernel_rfl) K390

theorem cellarerref12_Same_con {a_397 : List (List UInt8 × List UInt8 × Bool)} {b_398 : List (List UInt8 × List UInt8 × Bool)} {r : Bool} (h : cellarerref12_Same a_397 b_398 = some r) : Con Go.Proofs.Tryz.prog 14 [AV.list (Ty.prod Ty.str (Ty.prod Ty.str Ty.bool)) a_397 Bool.false, AV.list (Ty.prod Ty.str (Ty.prod Ty.str Ty.bool)) b_398 Bool.false] [] (cellarerref12_Same_res r) (cellarerref12_Same_out r) := by
  refine W.con (by kernel_rfl) ?_
  unfold cellarerref12_Same at h
  refine W.cond 0 100000 h (by kernel_rfl) (fun h => ?_) (fun h => ?_)
  ·
    exact W.retT 0 100000 h (by kernel_rfl)
  ·
    refine W.at 0 100000 [] [0, 1, 5] (c' := (fun (s_408 : Int) => (Cfg.mk Mode.run (headTodo Go.Proofs.Tryz.prog 14 0) (St.mk [AV.list (Ty.prod Ty.str (Ty.prod Ty.str Ty.bool)) a_397 Bool.false, AV.list (Ty.prod Ty.str (Ty.prod Ty.str Ty.bool)) b_398 Bool.false, jj, jj, jj, AV.int IntKind.i64 s_408, jj, jj, jj, jj, jj, jj, jj, jj, jj, jj, jj, jj, jj, jj, jj, jj, jj, jj, jj, jj] [] (0 : Nat)))) ((0 : Int))) (by kernel_rfl) ?_
    refine W.loop (fun (s_408 : Int) => (Cfg.mk Mode.run (headTodo Go.Proofs.Tryz.prog 14 0) (St.mk [AV.list (Ty.prod Ty.str (Ty.prod Ty.str Ty.bool)) a_397 Bool.false, AV.list (Ty.prod Ty.str (Ty.prod Ty.str Ty.bool)) b_398 Bool.false, jj, jj, jj, AV.int IntKind.i64 s_408, jj, jj, jj, jj, jj, jj, jj, jj, jj, jj, jj, jj, jj, jj, jj, jj, jj, jj, jj, jj] [] (0 : Nat)))) (fun t => (Sum.elim (fun t_402 => r = (Bool.false)) (fun t_403 => Walk Go.Proofs.Tryz.prog 14 (Cfg.mk Mode.run ((headTodo Go.Proofs.Tryz.prog 14 0).drop 3) (St.mk [jj, jj, jj, jj, jj, jj, jj, jj, jj, jj, jj, jj, jj, jj, jj, jj, jj, jj, jj, jj, jj, jj, jj, jj, jj, jj] [] (0 : Nat))) (cellarerref12_Same_res r) (cellarerref12_Same_out r))) t) h (fun t h => ?_) (fun s_408 x405 h405 K405 => ?_)
    ·
      rcases t with t_402 | t_403
      · replace h := W.inl (h)
        refine W.elimL (?_)
        exact (Option.some.inj h).symm
      · replace h := W.inr (h)
        refine W.elimR (?_)
        exact W.retT 0 100000 h (by kernel_rfl)
    · unfold cellarerref12_Same_b0 at h405
      refine W.cond 2 100000 h405 (by kernel_rfl) (fun h405 => ?_) (fun h405 => ?_)
      ·
        refine W.needT 2 100000 h405 (by kernel_rfl) (fun h405 => ?_)
        refine W.needT 2 100000 h405 (by kernel_rfl) (fun h405 => ?_)
        refine W.cond 2 100000 h405 (by kernel_rfl) (fun h405 => ?_) (fun h405 => ?_)
        ·
          cases h405; exact W.retK 2 100000 K405 (by kernel_rfl)
        ·
          cases h405; exact W.at 2 100000 [] [0, 1, 5] (by kernel_rfl) K405
      ·
        cases h405; exact W.at 2 100000 [] [] (by kernel_rfl) K405

theorem trigs_Fire_1_con {x_420 : List UInt8} {x_421 : List (List UInt8)} {o0_422 : List UInt8} {r : Bool × List UInt8} (h : trigs_Fire_1 x_420 x_421 o0_422 = some r) : Con Go.Proofs.Tryz.prog 62 [AV.agg [AV.str x_420, AV.list Ty.str x_421 Bool.false], AV.ptr (0 : Nat) (0 : Nat)] [AO.box [AV.str o0_422]] (trigs_Fire_1_res r) (trigs_Fire_1_out r) := by
  refine W.con (by kernel_rfl) ?_
  unfold trigs_Fire_1 at h
  exact W.retT 0 100000 h (by kernel_rfl)

theorem api_Fired__con {s_414 : List (List UInt8 × List (List UInt8))} {o0_415 : List UInt8} {r : Int × List UInt8} (h : api_Fired_ s_414 o0_415 = some r) : Con Go.Proofs.Tryz.prog 61 [AV.list (Ty.prod Ty.str (Ty.list Ty.str)) s_414 Bool.false, AV.func (Go.Fn.func (62 : Nat)) [] [AV.ptr (0 : Nat) (0 : Nat)]] [AO.box [AV.str o0_415]] (api_Fired__res r) (api_Fired__out r) := by
  refine W.con (by kernel_rfl) ?_
  unfold api_Fired_ at h
  refine W.at 0 100000 [] [0, 1, 7, 8] (c' := (fun (s_437 : Int × List UInt8) => (Cfg.mk Mode.run (headTodo Go.Proofs.Tryz.prog 61 0) (St.mk [AV.list (Ty.prod Ty.str (Ty.list Ty.str)) s_414 Bool.false, AV.func (Go.Fn.func (62 : Nat)) [] [AV.ptr (0 : Nat) (0 : Nat)], jj, jj, jj, jj, jj, AV.int IntKind.i64 (↑(List.length s_414) : Int), AV.int IntKind.i64 (Prod.fst s_437), jj, jj, jj, jj, jj, jj, jj, jj, jj, jj] [AO.box [AV.str (Prod.snd s_437)]] (1 : Nat)))) ((0 : Int), o0_415)) (by kernel_rfl) ?_
  refine W.loop (fun (s_437 : Int × List UInt8) => (Cfg.mk Mode.run (headTodo Go.Proofs.Tryz.prog 61 0) (St.mk [AV.list (Ty.prod Ty.str (Ty.list Ty.str)) s_414 Bool.false, AV.func (Go.Fn.func (62 : Nat)) [] [AV.ptr (0 : Nat) (0 : Nat)], jj, jj, jj, jj, jj, AV.int IntKind.i64 (↑(List.length s_414) : Int), AV.int IntKind.i64 (Prod.fst s_437), jj, jj, jj, jj, jj, jj, jj, jj, jj, jj] [AO.box [AV.str (Prod.snd s_437)]] (1 : Nat)))) (fun t => (Sum.elim (fun t_429 => r = (Prod.fst t_429, Prod.snd t_429)) (fun t_431 => Walk Go.Proofs.Tryz.prog 61 (Cfg.mk Mode.run ((headTodo Go.Proofs.Tryz.prog 61 0).drop 3) (St.mk [jj, jj, jj, jj, jj, jj, jj, jj, jj, jj, jj, jj, jj, jj, jj, jj, jj, jj, jj] [AO.box [AV.str t_431]] (1 : Nat))) (api_Fired__res r) (api_Fired__out r))) t) h (fun t h => ?_) (fun s_437 x433 h433 K433 => ?_)
  ·
    rcases t with t_429 | t_431
    · replace h := W.inl (h)
      refine W.elimL (?_)
      exact (Option.some.inj h).symm
    · replace h := W.inr (h)
      refine W.elimR (?_)
      exact W.retT 0 100000 h (by kernel_rfl)
  · unfold api_Fired__b0 at h433
    refine W.cond 2 100000 h433 (by kernel_rfl) (fun h433 => ?_) (fun h433 => ?_)
    ·
      refine W.needT 2 100000 h433 (by kernel_rfl) (fun h433 => ?_)
      refine W.bind h433 fun a_426 ha_426 h433 => ?_
      refine W.call 2 100000 (by kernel_rfl) (trigs_Fire_1_con ha_426) (by kernel_rfl) ?_
      refine W.cond 2 100000 h433 (by kernel_rfl) (fun h433 => ?_) (fun h433 => ?_)
      ·
        cases h433; exact W.retK 2 100000 K433 (by kernel_rfl)
      ·
        cases h433; exact W.at 2 100000 [] [0, 1, 7, 8] (by kernel_rfl) K433
    ·
      cases h433; exact W.at 2 100000 [] [] (by kernel_rfl) K433

theorem slices_Clone___string_string__con {s_440 : List (List UInt8)} {r : List (List UInt8)} (h : slices_Clone___string_string_ s_440 = some r) : Con Go.Proofs.Tryz.prog 49 [AV.list Ty.str s_440 Bool.false] [] (slices_Clone___string_string__res r) (slices_Clone___string_string__out r) := by
  refine W.con (by kernel_rfl) ?_
  unfold slices_Clone___string_string_ at h
  refine W.mayb 0 100000 h (by kernel_rfl) (fun h => ?_) (fun h => ?_)
  ·
    exact W.retT 0 100000 h (by kernel_rfl)
  ·
    refine W.needT 0 100000 h (by kernel_rfl) (fun h => ?_)
    exact W.retT 0 100000 h (by kernel_rfl)

theorem trigs_Fire_2_con {y_457 : List UInt8} {y_458 : List (List UInt8)} {o0_459 : List UInt8} {r : Bool × List UInt8} (h : trigs_Fire_2 y_457 y_458 o0_459 = some r) : Con Go.Proofs.Tryz.prog 65 [AV.agg [AV.str y_457, AV.list Ty.str y_458 Bool.false], AV.ptr (0 : Nat) (0 : Nat)] [AO.box [AV.str o0_459]] (trigs_Fire_2_res r) (trigs_Fire_2_out r) := by
  refine W.con (by kernel_rfl) ?_
  unfold trigs_Fire_2 at h
  exact W.retT 0 100000 h (by kernel_rfl)

theorem api_Fired__v1_con {s_451 : List (List UInt8 × List (List UInt8))} {o0_452 : List UInt8} {r : Int × List UInt8} (h : api_Fired__v1 s_451 o0_452 = some r) : Con Go.Proofs.Tryz.prog 61 [AV.list (Ty.prod Ty.str (Ty.list Ty.str)) s_451 Bool.false, AV.func (Go.Fn.func (65 : Nat)) [] [AV.ptr (0 : Nat) (0 : Nat)]] [AO.box [AV.str o0_452]] (api_Fired__v1_res r) (api_Fired__v1_out r) := by
  refine W.con (by kernel_rfl) ?_
  unfold api_Fired__v1 at h
  refine W.at 0 100000 [] [0, 1, 7, 8] (c' := (fun (s_474 : Int × List UInt8) => (Cfg.mk Mode.run (headTodo Go.Proofs.Tryz.prog 61 0) (St.mk [AV.list (Ty.prod Ty.str (Ty.list Ty.str)) s_451 Bool.false, AV.func (Go.Fn.func (65 : Nat)) [] [AV.ptr (0 : Nat) (0 : Nat)], jj, jj, jj, jj, jj, AV.int IntKind.i64 (↑(List.length s_451) : Int), AV.int IntKind.i64 (Prod.fst s_474), jj, jj, jj, jj, jj, jj, jj, jj, jj, jj] [AO.box [AV.str (Prod.snd s_474)]] (1 : Nat)))) ((0 : Int), o0_452)) (by kernel_rfl) ?_
  refine W.loop (fun (s_474 : Int × List UInt8) => (Cfg.mk Mode.run (headTodo Go.Proofs.Tryz.prog 61 0) (St.mk [AV.list (Ty.prod Ty.str (Ty.list Ty.str)) s_451 Bool.false, AV.func (Go.Fn.func (65 : Nat)) [] [AV.ptr (0 : Nat) (0 : Nat)], jj, jj, jj, jj, jj, AV.int IntKind.i64 (↑(List.length s_451) : Int), AV.int IntKind.i64 (Prod.fst s_474), jj, jj, jj, jj, jj, jj, jj, jj, jj, jj] [AO.box [AV.str (Prod.snd s_474)]] (1 : Nat)))) (fun t => (Sum.elim (fun t_466 => r = (Prod.fst t_466, Prod.snd t_466)) (fun t_468 => Walk Go.Proofs.Tryz.prog 61 (Cfg.mk Mode.run ((headTodo Go.Proofs.Tryz.prog 61 0).drop 3) (St.mk [jj, jj, jj, jj, jj, jj, jj, jj, jj, jj, jj, jj, jj, jj, jj, jj, jj, jj, jj] [AO.box [AV.str t_468]] (1 : Nat))) (api_Fired__v1_res r) (api_Fired__v1_out r))) t) h (fun t h => ?_) (fun s_474 x470 h470 K470 => ?_)
  ·
    rcases t with t_466 | t_468
    · replace h := W.inl (h)
      refine W.elimL (?_)
      exact (Option.some.inj h).symm
    · replace h := W.inr (h)
      refine W.elimR (?_)
      exact W.retT 0 100000 h (by kernel_rfl)
  · unfold api_Fired__v1_b0 at h470
    refine W.cond 2 100000 h470 (by kernel_rfl) (fun h470 => ?_) (fun h470 => ?_)
    ·
      refine W.needT 2 100000 h470 (by kernel_rfl) (fun h470 => ?_)
      refine W.bind h470 fun a_463 ha_463 h470 => ?_
      refine W.call 2 100000 (by kernel_rfl) (trigs_Fire_2_con ha_463) (by kernel_rfl) ?_
      refine W.cond 2 100000 h470 (by kernel_rfl) (fun h470 => ?_) (fun h470 => ?_)
      ·
        cases h470; exact W.retK 2 100000 K470 (by kernel_rfl)
      ·
        cases h470; exact W.at 2 100000 [] [0, 1, 7, 8] (by kernel_rfl) K470
    ·
      cases h470; exact W.at 2 100000 [] [] (by kernel_rfl) K470

theorem api_Fired__66_con {s_478 : List (List UInt8 × List (List UInt8))} {r : List (List UInt8 × List (List UInt8))} (h : api_Fired__66 s_478 = some r) : Con Go.Proofs.Tryz.prog 66 [AV.list (Ty.prod Ty.str (Ty.list Ty.str)) s_478 Bool.false] [] (api_Fired__66_res r) (api_Fired__66_out r) := by
  refine W.con (by kernel_rfl) ?_
  unfold api_Fired__66 at h
  refine W.mayb 0 100000 h (by kernel_rfl) (fun h => ?_) (fun h => ?_)
  ·
    exact W.retT 0 100000 h (by kernel_rfl)
  ·
    refine W.needT 0 100000 h (by kernel_rfl) (fun h => ?_)
    exact W.retT 0 100000 h (by kernel_rfl)

theorem api_Fired__83_con {i_485 : Int} {v_486 : List (List UInt8 × List (List UInt8))} {o0_487 : List (List UInt8 × List (List UInt8))} {r : List (List UInt8 × List (List UInt8))} (h : api_Fired__83 i_485 v_486 o0_487 = some r) : Con Go.Proofs.Tryz.prog 83 [AV.view (0 : Nat) (0 : Nat) Option.none, AV.int IntKind.i64 i_485, AV.list (Ty.prod Ty.str (Ty.list Ty.str)) v_486 Bool.false] [AO.row (Ty.prod Ty.str (Ty.list Ty.str)) o0_487] (api_Fired__83_res r) (api_Fired__83_out r) := by
  refine W.con (by kernel_rfl) ?_
  unfold api_Fired__83 at h
  refine W.needT 0 100000 h (by kernel_rfl) (fun h => ?_)
  refine W.cond 0 100000 h (by kernel_rfl) (fun h => ?_) (fun h => ?_)
  ·
    exact W.retT 0 100000 h (by kernel_rfl)
  ·
    refine W.cond 0 100000 h (by kernel_rfl) (fun h => ?_) (fun h => ?_)
    ·
      refine W.needT 0 100000 h (by kernel_rfl) (fun h => ?_)
      exact W.retT 0 100000 h (by kernel_rfl)
    ·
      exact nomatch h

theorem api_Fired__64_con {l_447 : List (List UInt8 × List (List UInt8))} {x_448 : List UInt8} {x_449 : List (List UInt8)} {o0_450 : List UInt8} {r : List UInt8 × List (List UInt8 × List (List UInt8))} (h : api_Fired__64 l_447 x_448 x_449 o0_450 = some r) : Con Go.Proofs.Tryz.prog 64 [AV.list (Ty.prod Ty.str (Ty.list Ty.str)) l_447 Bool.false, AV.agg [AV.str x_448, AV.list Ty.str x_449 Bool.false], AV.func (Go.Fn.func (65 : Nat)) [] [AV.ptr (0 : Nat) (0 : Nat)]] [AO.box [AV.str o0_450]] (api_Fired__64_res r) (api_Fired__64_out r) := by
  refine W.con (by kernel_rfl) ?_
  unfold api_Fired__64 at h
  refine W.bind h fun a_475 ha_475 h => ?_
  refine W.call 0 100000 (by kernel_rfl) (api_Fired__v1_con ha_475) (by kernel_rfl) ?_
  refine W.join (fun t_477 => Walk Go.Proofs.Tryz.prog 64 (Cfg.mk Mode.run (seqTodo Go.Proofs.Tryz.prog 64 2) (St.mk [AV.list (Ty.prod Ty.str (Ty.list Ty.str)) l_447 Bool.false, jj, jj, jj, AV.ptr (1 : Nat) (0 : Nat), jj, jj, AV.int IntKind.i64 t_477, jj, jj, jj, jj, jj, jj, jj, jj, jj, jj, jj, jj, jj] [AO.box [AV.str (Prod.snd a_475)], AO.box [AV.str x_448, AV.list Ty.str x_449 Bool.false]] (1 : Nat))) (api_Fired__64_res r) (api_Fired__64_out r)) h (fun t_477 h => ?_) (fun t492 h492 K492 => ?_)
  ·
    refine W.bind h fun a_481 ha_481 h => ?_
    refine W.call 0 100000 (by kernel_rfl) (api_Fired__66_con ha_481) (by kernel_rfl) ?_
    refine W.bind h fun a_490 ha_490 h => ?_
    refine W.call 0 100000 (by kernel_rfl) (api_Fired__83_con ha_490) (by kernel_rfl) ?_
    exact W.retT 0 100000 h (by kernel_rfl)
  · refine W.next 0 3 (by kernel_rfl) ?_
    refine W.cond 1 100000 h492 (by kernel_rfl) (fun h492 => ?_) (fun h492 => ?_)
    ·
      cases h492; exact W.at 1 100000 [] [0, 4, 7] (by kernel_rfl) K492
    ·
      cases h492; exact W.at 1 100000 [] [0, 4, 7] (by kernel_rfl) K492

theorem trigs_Fire_con {l_411 : List (List UInt8 × List (List UInt8))} {trigger_412 : List UInt8} {by_413 : List UInt8} {r : List (List UInt8 × List (List UInt8))} (h : trigs_Fire l_411 trigger_412 by_413 = some r) : Con Go.Proofs.Tryz.prog 30 [AV.list (Ty.prod Ty.str (Ty.list Ty.str)) l_411 Bool.false, AV.str trigger_412, AV.str by_413] [] (trigs_Fire_res r) (trigs_Fire_out r) := by
  refine W.con (by kernel_rfl) ?_
  unfold trigs_Fire at h
  refine W.bind h fun a_438 ha_438 h => ?_
  refine W.call 0 100000 (by kernel_rfl) (api_Fired__con ha_438) (by kernel_rfl) ?_
  refine W.join (fun t => (Sum.elim (fun t_439 => Walk Go.Proofs.Tryz.prog 30 (Cfg.mk Mode.run (seqTodo Go.Proofs.Tryz.prog 30 3) (St.mk [AV.list (Ty.prod Ty.str (Ty.list Ty.str)) l_411 Bool.false, jj, AV.str by_413, jj, AV.ptr (0 : Nat) (0 : Nat), jj, jj, AV.int IntKind.i64 (Prod.fst a_438), AV.ptr (1 : Nat) (0 : Nat), jj, jj, jj, jj, jj, jj, jj, jj, jj, jj, jj, jj, jj, jj, jj, jj, jj, jj, jj, jj, jj, jj, jj, jj, jj, jj, jj, jj, jj, jj, jj, jj, jj, jj, jj, jj, jj] [AO.box [AV.str (Prod.snd a_438)], AO.box [AV.str (Prod.snd a_438), AV.list Ty.str (Prod.snd (List.getD l_411 (Int.toNat (Prod.fst a_438)) ([], []))) Bool.false]] (0 : Nat))) (trigs_Fire_res r) (trigs_Fire_out r)) (fun t_501 => Walk Go.Proofs.Tryz.prog 30 (Cfg.mk Mode.run (seqTodo Go.Proofs.Tryz.prog 30 3) (St.mk [AV.list (Ty.prod Ty.str (Ty.list Ty.str)) l_411 Bool.false, jj, AV.str by_413, jj, AV.ptr (0 : Nat) (0 : Nat), jj, jj, AV.int IntKind.i64 (Prod.fst a_438), AV.ptr (1 : Nat) (0 : Nat), jj, jj, jj, jj, jj, jj, jj, jj, jj, jj, jj, jj, jj, jj, jj, jj, jj, jj, jj, jj, jj, jj, jj, jj, jj, jj, jj, jj, jj, jj, jj, jj, jj, jj, jj, jj, jj] [AO.box [AV.str (Prod.snd a_438)], AO.box [AV.str (Prod.snd a_438), AV.nils]] (0 : Nat))) (trigs_Fire_res r) (trigs_Fire_out r))) t) h (fun t h => ?_) (fun t513 h513 K513 => ?_)
  ·
    rcases t with t_439 | t_501
    · replace h := W.inl (h)
      refine W.elimL (?_)
      refine W.join (fun t => (Sum.elim (fun t_446 => Walk Go.Proofs.Tryz.prog 30 (Cfg.mk Mode.run (seqTodo Go.Proofs.Tryz.prog 30 5) (St.mk [AV.list (Ty.prod Ty.str (Ty.list Ty.str)) l_411 Bool.false, jj, jj, jj, AV.ptr (0 : Nat) (0 : Nat), jj, jj, AV.int IntKind.i64 (Prod.fst a_438), AV.ptr (1 : Nat) (0 : Nat), jj, jj, jj, jj, jj, jj, jj, jj, jj, jj, jj, jj, jj, jj, jj, jj, jj, jj, jj, jj, jj, jj, jj, jj, jj, jj, jj, jj, jj, jj, jj, jj, jj, jj, jj, jj, jj] [AO.box [AV.str (Prod.snd a_438)], AO.box [AV.str (Prod.snd a_438), AV.view (2 : Nat) (0 : Nat) Option.none], AO.row Ty.str t_446] (0 : Nat))) (trigs_Fire_res r) (trigs_Fire_out r)) (fun t_497 => Walk Go.Proofs.Tryz.prog 30 (Cfg.mk Mode.run (seqTodo Go.Proofs.Tryz.prog 30 5) (St.mk [AV.list (Ty.prod Ty.str (Ty.list Ty.str)) l_411 Bool.false, jj, jj, jj, AV.ptr (0 : Nat) (0 : Nat), jj, jj, AV.int IntKind.i64 (Prod.fst a_438), AV.ptr (1 : Nat) (0 : Nat), jj, jj, jj, jj, jj, jj, jj, jj, jj, jj, jj, jj, jj, jj, jj, jj, jj, jj, jj, jj, jj, jj, jj, jj, jj, jj, jj, jj, jj, jj, jj, jj, jj, jj, jj, jj, jj] [AO.box [AV.str (Prod.snd a_438)], AO.box [AV.str (Prod.snd a_438), AV.list Ty.str (Prod.snd (List.getD l_411 (Int.toNat (Prod.fst a_438)) ([], []))) Bool.false]] (0 : Nat))) (trigs_Fire_res r) (trigs_Fire_out r))) t) h (fun t h => ?_) (fun t501 h501 K501 => ?_)
      ·
        rcases t with t_446 | t_497
        · replace h := W.inl (h)
          refine W.elimL (?_)
          refine W.cond 0 100000 h (by kernel_rfl) (fun h => ?_) (fun h => ?_)
          ·
            refine W.bind h fun a_495 ha_495 h => ?_
            refine W.call 0 100000 (by kernel_rfl) (api_Fired__64_con ha_495) (by kernel_rfl) ?_
            exact W.retT 0 100000 h (by kernel_rfl)
          ·
            refine W.bind h fun a_496 ha_496 h => ?_
            refine W.call 0 100000 (by kernel_rfl) (api_Fired__66_con ha_496) (by kernel_rfl) ?_
            refine W.needT 0 100000 h (by kernel_rfl) (fun h => ?_)
            refine W.needT 0 100000 h (by kernel_rfl) (fun h => ?_)
            exact W.retT 0 100000 h (by kernel_rfl)
        · replace h := W.inr (h)
          refine W.elimR (?_)
          refine W.cond 0 100000 h (by kernel_rfl) (fun h => ?_) (fun h => ?_)
          ·
            refine W.bind h fun a_498 ha_498 h => ?_
            refine W.call 0 100000 (by kernel_rfl) (api_Fired__64_con ha_498) (by kernel_rfl) ?_
            exact W.retT 0 100000 h (by kernel_rfl)
          ·
            refine W.bind h fun a_499 ha_499 h => ?_
            refine W.call 0 100000 (by kernel_rfl) (api_Fired__66_con ha_499) (by kernel_rfl) ?_
            refine W.needT 0 100000 h (by kernel_rfl) (fun h => ?_)
            refine W.needT 0 100000 h (by kernel_rfl) (fun h => ?_)
            exact W.retT 0 100000 h (by kernel_rfl)
      · refine W.next 0 1 (by kernel_rfl) ?_
        refine W.cond 1 100000 h501 (by kernel_rfl) (fun h501 => ?_) (fun h501 => ?_)
        ·
          refine W.bind h501 fun a_443 ha_443 h501 => ?_
          refine W.call 1 100000 (by kernel_rfl) (slices_Clone___string_string__con ha_443) (by kernel_rfl) ?_
          refine W.needT 1 100000 h501 (by kernel_rfl) (fun h501 => ?_)
          refine W.bind h501 fun a_444 ha_444 h501 => ?_
          refine W.call 1 100000 (by kernel_rfl) (path_Sorted_con ha_444) (by kernel_rfl) ?_
          cases h501; exact W.at 1 100000 [] [0, 4, 7, 8] (by kernel_rfl) K501
        ·
          cases h501; exact W.at 1 100000 [] [0, 4, 7, 8] (by kernel_rfl) K501
    · replace h := W.inr (h)
      refine W.elimR (?_)
      refine W.join (fun t => (Sum.elim (fun t_505 => Walk Go.Proofs.Tryz.prog 30 (Cfg.mk Mode.run (seqTodo Go.Proofs.Tryz.prog 30 5) (St.mk [AV.list (Ty.prod Ty.str (Ty.list Ty.str)) l_411 Bool.false, jj, jj, jj, AV.ptr (0 : Nat) (0 : Nat), jj, jj, AV.int IntKind.i64 (Prod.fst a_438), AV.ptr (1 : Nat) (0 : Nat), jj, jj, jj, jj, jj, jj, jj, jj, jj, jj, jj, jj, jj, jj, jj, jj, jj, jj, jj, jj, jj, jj, jj, jj, jj, jj, jj, jj, jj, jj, jj, jj, jj, jj, jj, jj, jj] [AO.box [AV.str (Prod.snd a_438)], AO.box [AV.str (Prod.snd a_438), AV.view (2 : Nat) (0 : Nat) Option.none], AO.row Ty.str t_505] (0 : Nat))) (trigs_Fire_res r) (trigs_Fire_out r)) (fun t_508 => Walk Go.Proofs.Tryz.prog 30 (Cfg.mk Mode.run (seqTodo Go.Proofs.Tryz.prog 30 5) (St.mk [AV.list (Ty.prod Ty.str (Ty.list Ty.str)) l_411 Bool.false, jj, jj, jj, AV.ptr (0 : Nat) (0 : Nat), jj, jj, AV.int IntKind.i64 (Prod.fst a_438), AV.ptr (1 : Nat) (0 : Nat), jj, jj, jj, jj, jj, jj, jj, jj, jj, jj, jj, jj, jj, jj, jj, jj, jj, jj, jj, jj, jj, jj, jj, jj, jj, jj, jj, jj, jj, jj, jj, jj, jj, jj, jj, jj, jj] [AO.box [AV.str (Prod.snd a_438)], AO.box [AV.str (Prod.snd a_438), AV.nils]] (0 : Nat))) (trigs_Fire_res r) (trigs_Fire_out r))) t) h (fun t h => ?_) (fun t512 h512 K512 => ?_)
      ·
        rcases t with t_505 | t_508
        · replace h := W.inl (h)
          refine W.elimL (?_)
          refine W.cond 0 100000 h (by kernel_rfl) (fun h => ?_) (fun h => ?_)
          ·
            refine W.bind h fun a_506 ha_506 h => ?_
            refine W.call 0 100000 (by kernel_rfl) (api_Fired__64_con ha_506) (by kernel_rfl) ?_
            exact W.retT 0 100000 h (by kernel_rfl)
          ·
            refine W.bind h fun a_507 ha_507 h => ?_
            refine W.call 0 100000 (by kernel_rfl) (api_Fired__66_con ha_507) (by kernel_rfl) ?_
            refine W.needT 0 100000 h (by kernel_rfl) (fun h => ?_)
            refine W.needT 0 100000 h (by kernel_rfl) (fun h => ?_)
            exact W.retT 0 100000 h (by kernel_rfl)
        · replace h := W.inr (h)
          refine W.elimR (?_)
          refine W.cond 0 100000 h (by kernel_rfl) (fun h => ?_) (fun h => ?_)
          ·
            refine W.bind h fun a_509 ha_509 h => ?_
            refine W.call 0 100000 (by kernel_rfl) (api_Fired__64_con ha_509) (by kernel_rfl) ?_
            exact W.retT 0 100000 h (by kernel_rfl)
          ·
            refine W.bind h fun a_510 ha_510 h => ?_
            refine W.call 0 100000 (by kernel_rfl) (api_Fired__66_con ha_510) (by kernel_rfl) ?_
            refine W.needT 0 100000 h (by kernel_rfl) (fun h => ?_)
            refine W.needT 0 100000 h (by kernel_rfl) (fun h => ?_)
            exact W.retT 0 100000 h (by kernel_rfl)
      · refine W.next 0 1 (by kernel_rfl) ?_
        refine W.cond 1 100000 h512 (by kernel_rfl) (fun h512 => ?_) (fun h512 => ?_)
        ·
          refine W.bind h512 fun a_502 ha_502 h512 => ?_
          refine W.call 1 100000 (by kernel_rfl) (slices_Clone___string_string__con ha_502) (by kernel_rfl) ?_
          refine W.needT 1 100000 h512 (by kernel_rfl) (fun h512 => ?_)
          refine W.bind h512 fun a_503 ha_503 h512 => ?_
          refine W.call 1 100000 (by kernel_rfl) (path_Sorted_con ha_503) (by kernel_rfl) ?_
          cases h512; exact W.at 1 100000 [] [0, 4, 7, 8] (by kernel_rfl) K512
        ·
          cases h512; exact W.at 1 100000 [] [0, 4, 7, 8] (by kernel_rfl) K512
  · refine W.next 0 10 (by kernel_rfl) ?_
    refine W.cond 1 100000 h513 (by kernel_rfl) (fun h513 => ?_) (fun h513 => ?_)
    ·
      refine W.needT 1 100000 h513 (by kernel_rfl) (fun h513 => ?_)
      cases h513; exact W.at 1 100000 [] [0, 2, 4, 7, 8] (by kernel_rfl) K513
    ·
      cases h513; exact W.at 1 100000 [] [0, 2, 4, 7, 8] (by kernel_rfl) K513

theorem trigs_CheckFired_1_con {x_523 : List UInt8} {x_524 : List (List UInt8)} {r : Bool} (h : trigs_CheckFired_1 x_523 x_524 = some r) : Con Go.Proofs.Tryz.prog 44 [AV.agg [AV.str x_523, AV.list Ty.str x_524 Bool.false]] [] (trigs_CheckFired_1_res r) (trigs_CheckFired_1_out r) := by
  refine W.con (by kernel_rfl) ?_
  unfold trigs_CheckFired_1 at h
  exact W.retT 0 100000 h (by kernel_rfl)

theorem api_Fired__v2_con {s_519 : List (List UInt8 × List (List UInt8))} {r : Int} (h : api_Fired__v2 s_519 = some r) : Con Go.Proofs.Tryz.prog 61 [AV.list (Ty.prod Ty.str (Ty.list Ty.str)) s_519 Bool.false, AV.func (Go.Fn.func (44 : Nat)) [] []] [] (api_Fired__v2_res r) (api_Fired__v2_out r) := by
  refine W.con (by kernel_rfl) ?_
  unfold api_Fired__v2 at h
  refine W.at 0 100000 [] [0, 1, 7, 8] (c' := (fun (s_535 : Int) => (Cfg.mk Mode.run (headTodo Go.Proofs.Tryz.prog 61 0) (St.mk [AV.list (Ty.prod Ty.str (Ty.list Ty.str)) s_519 Bool.false, AV.func (Go.Fn.func (44 : Nat)) [] [], jj, jj, jj, jj, jj, AV.int IntKind.i64 (↑(List.length s_519) : Int), AV.int IntKind.i64 s_535, jj, jj, jj, jj, jj, jj, jj, jj, jj, jj] [] (0 : Nat)))) ((0 : Int))) (by kernel_rfl) ?_
  refine W.loop (fun (s_535 : Int) => (Cfg.mk Mode.run (headTodo Go.Proofs.Tryz.prog 61 0) (St.mk [AV.list (Ty.prod Ty.str (Ty.list Ty.str)) s_519 Bool.false, AV.func (Go.Fn.func (44 : Nat)) [] [], jj, jj, jj, jj, jj, AV.int IntKind.i64 (↑(List.length s_519) : Int), AV.int IntKind.i64 s_535, jj, jj, jj, jj, jj, jj, jj, jj, jj, jj] [] (0 : Nat)))) (fun t => (Sum.elim (fun t_529 => r = (t_529)) (fun t_530 => Walk Go.Proofs.Tryz.prog 61 (Cfg.mk Mode.run ((headTodo Go.Proofs.Tryz.prog 61 0).drop 3) (St.mk [jj, jj, jj, jj, jj, jj, jj, jj, jj, jj, jj, jj, jj, jj, jj, jj, jj, jj, jj] [] (0 : Nat))) (api_Fired__v2_res r) (api_Fired__v2_out r))) t) h (fun t h => ?_) (fun s_535 x532 h532 K532 => ?_)
  ·
    rcases t with t_529 | t_530
    · replace h := W.inl (h)
      refine W.elimL (?_)
      exact (Option.some.inj h).symm
    · replace h := W.inr (h)
      refine W.elimR (?_)
      exact W.retT 0 100000 h (by kernel_rfl)
  · unfold api_Fired__v2_b0 at h532
    refine W.cond 2 100000 h532 (by kernel_rfl) (fun h532 => ?_) (fun h532 => ?_)
    ·
      refine W.needT 2 100000 h532 (by kernel_rfl) (fun h532 => ?_)
      refine W.bind h532 fun a_527 ha_527 h532 => ?_
      refine W.call 2 100000 (by kernel_rfl) (trigs_CheckFired_1_con ha_527) (by kernel_rfl) ?_
      refine W.cond 2 100000 h532 (by kernel_rfl) (fun h532 => ?_) (fun h532 => ?_)
      ·
        cases h532; exact W.retK 2 100000 K532 (by kernel_rfl)
      ·
        cases h532; exact W.at 2 100000 [] [0, 1, 7, 8] (by kernel_rfl) K532
    ·
      cases h532; exact W.at 2 100000 [] [] (by kernel_rfl) K532

theorem api_Fired__43_con {s_518 : List (List UInt8 × List (List UInt8))} {r : Bool} (h : api_Fired__43 s_518 = some r) : Con Go.Proofs.Tryz.prog 43 [AV.list (Ty.prod Ty.str (Ty.list Ty.str)) s_518 Bool.false, AV.func (Go.Fn.func (44 : Nat)) [] []] [] (api_Fired__43_res r) (api_Fired__43_out r) := by
  refine W.con (by kernel_rfl) ?_
  unfold api_Fired__43 at h
  refine W.bind h fun a_536 ha_536 h => ?_
  refine W.call 0 100000 (by kernel_rfl) (api_Fired__v2_con ha_536) (by kernel_rfl) ?_
  exact W.retT 0 100000 h (by kernel_rfl)

theorem trigs_rising_con {l_547 : List (List UInt8)} {r : Bool} (h : trigs_rising l_547 = some r) : Con Go.Proofs.Tryz.prog 45 [AV.list Ty.str l_547 Bool.false] [] (trigs_rising_res r) (trigs_rising_out r) := by
  refine W.con (by kernel_rfl) ?_
  unfold trigs_rising at h
  refine W.at 0 100000 [] [0, 5, 6, 7] (c' := (fun (s_559 : Int) => (Cfg.mk Mode.run (headTodo Go.Proofs.Tryz.prog 45 0) (St.mk [AV.list Ty.str l_547 Bool.false, jj, jj, jj, jj, AV.list Ty.str l_547 Bool.false, AV.int IntKind.i64 (↑(List.length l_547) : Int), AV.int IntKind.i64 s_559, jj, jj, jj, jj, jj, jj, jj, jj, jj, jj, jj, jj, jj, jj, jj, jj, jj, jj, jj, jj, jj] [] (0 : Nat)))) ((0 : Int))) (by kernel_rfl) ?_
  refine W.loop (fun (s_559 : Int) => (Cfg.mk Mode.run (headTodo Go.Proofs.Tryz.prog 45 0) (St.mk [AV.list Ty.str l_547 Bool.false, jj, jj, jj, jj, AV.list Ty.str l_547 Bool.false, AV.int IntKind.i64 (↑(List.length l_547) : Int), AV.int IntKind.i64 s_559, jj, jj, jj, jj, jj, jj, jj, jj, jj, jj, jj, jj, jj, jj, jj, jj, jj, jj, jj, jj, jj] [] (0 : Nat)))) (fun t => (Sum.elim (fun t_553 => r = (Bool.false)) (fun t_554 => Walk Go.Proofs.Tryz.prog 45 (Cfg.mk Mode.run ((headTodo Go.Proofs.Tryz.prog 45 0).drop 3) (St.mk [jj, jj, jj, jj, jj, jj, jj, jj, jj, jj, jj, jj, jj, jj, jj, jj, jj, jj, jj, jj, jj, jj, jj, jj, jj, jj, jj, jj, jj] [] (0 : Nat))) (trigs_rising_res r) (trigs_rising_out r))) t) h (fun t h => ?_) (fun s_559 x556 h556 K556 => ?_)
  ·
    rcases t with t_553 | t_554
    · replace h := W.inl (h)
      refine W.elimL (?_)
      exact (Option.some.inj h).symm
    · replace h := W.inr (h)
      refine W.elimR (?_)
      exact W.retT 0 100000 h (by kernel_rfl)
  · unfold trigs_rising_b0 at h556
    refine W.cond 2 100000 h556 (by kernel_rfl) (fun h556 => ?_) (fun h556 => ?_)
    ·
      refine W.needT 2 100000 h556 (by kernel_rfl) (fun h556 => ?_)
      refine W.bind h556 fun a_552 ha_552 h556 => ?_
      refine W.call 2 100000 (by kernel_rfl) (path_Name_con ha_552) (by kernel_rfl) ?_
      refine W.cond 2 100000 h556 (by kernel_rfl) (fun h556 => ?_) (fun h556 => ?_)
      ·
        refine W.yes 2 100000 (by kernel_rfl) ?_
        refine W.yes 2 100000 (by kernel_rfl) ?_
        refine W.yes 2 100000 (by kernel_rfl) ?_
        refine W.yes 2 100000 (by kernel_rfl) ?_
        refine W.yes 2 100000 (by kernel_rfl) ?_
        cases h556; exact W.retK 2 100000 K556 (by kernel_rfl)
      ·
        refine W.no 2 100000 (by kernel_rfl) ?_
        refine W.no 2 100000 (by kernel_rfl) ?_
        refine W.cond 2 100000 h556 (by kernel_rfl) (fun h556 => ?_) (fun h556 => ?_)
        ·
          refine W.yes 2 100000 (by kernel_rfl) ?_
          refine W.yes 2 100000 (by kernel_rfl) ?_
          refine W.yes 2 100000 (by kernel_rfl) ?_
          refine W.needT 2 100000 h556 (by kernel_rfl) (fun h556 => ?_)
          refine W.yes 2 100000 (by kernel_rfl) ?_
          refine W.yes 2 100000 (by kernel_rfl) ?_
          refine W.yes 2 100000 (by kernel_rfl) ?_
          refine W.no 2 100000 (by kernel_rfl) ?_
          refine W.yes 2 100000 (by kernel_rfl) ?_
          refine W.no 2 100000 (by kernel_rfl) ?_
          refine W.cond 2 100000 h556 (by kernel_rfl) (fun h556 => ?_) (fun h556 => ?_)
          ·
            cases h556; exact W.retK 2 100000 K556 (by kernel_rfl)
          ·
            cases h556; exact W.at 2 100000 [] [0, 5, 6, 7] (by kernel_rfl) K556
        ·
          refine W.no 2 100000 (by kernel_rfl) ?_
          refine W.no 2 100000 (by kernel_rfl) ?_
          refine W.no 2 100000 (by kernel_rfl) ?_
          refine W.no 2 100000 (by kernel_rfl) ?_
          refine W.no 2 100000 (by kernel_rfl) ?_
          refine W.no 2 100000 (by kernel_rfl) ?_
          refine W.no 2 100000 (by kernel_rfl) ?_
          refine W.no 2 100000 (by kernel_rfl) ?_
          refine W.no 2 100000 (by kernel_rfl) ?_
          refine W.no 2 100000 (by kernel_rfl) ?_
          cases h556; exact W.at 2 100000 [] [0, 5, 6, 7] (by kernel_rfl) K556
    ·
      cases h556; exact W.at 2 100000 [] [] (by kernel_rfl) K556

theorem trigs_CheckFired_con {l_517 : List (List UInt8 × List (List UInt8))} {r : Int} (h : trigs_CheckFired l_517 = some r) : Con Go.Proofs.Tryz.prog 18 [AV.list (Ty.prod Ty.str (Ty.list Ty.str)) l_517 Bool.false] [] (trigs_CheckFired_res r) (trigs_CheckFired_out r) := by
  refine W.con (by kernel_rfl) ?_
  unfold trigs_CheckFired at h
  refine W.join (fun t => (Sum.elim (fun t_540 => r = ((22 : Int))) (fun t_541 => Walk Go.Proofs.Tryz.prog 18 (Cfg.mk Mode.run (seqTodo Go.Proofs.Tryz.prog 18 1) (St.mk [AV.list (Ty.prod Ty.str (Ty.list Ty.str)) l_517 Bool.false, jj, jj, jj, jj, jj, jj, jj, jj, jj, jj, jj, jj, jj, jj, jj, jj, jj, jj, jj, jj, jj, jj, jj, jj, jj, jj, jj, jj, jj, jj, jj, jj, jj, jj, jj, jj, jj, jj, jj, jj, jj, jj, jj, jj] [] (0 : Nat))) (trigs_CheckFired_res r) (trigs_CheckFired_out r))) t) h (fun t h => ?_) (fun t565 h565 K565 => ?_)
  ·
    rcases t with t_540 | t_541
    · replace h := W.inl (h)
      refine W.elimL (?_)
      exact (Option.some.inj h).symm
    · replace h := W.inr (h)
      refine W.elimR (?_)
      refine W.at 0 100000 [] [0, 12, 13, 14] (c' := (fun (s_568 : Int) => (Cfg.mk Mode.run (headTodo Go.Proofs.Tryz.prog 18 0) (St.mk [AV.list (Ty.prod Ty.str (Ty.list Ty.str)) l_517 Bool.false, jj, jj, jj, jj, jj, jj, jj, jj, jj, jj, jj, AV.list (Ty.prod Ty.str (Ty.list Ty.str)) l_517 Bool.false, AV.int IntKind.i64 (↑(List.length l_517) : Int), AV.int IntKind.i64 s_568, jj, jj, jj, jj, jj, jj, jj, jj, jj, jj, jj, jj, jj, jj, jj, jj, jj, jj, jj, jj, jj, jj, jj, jj, jj, jj, jj, jj, jj, jj] [] (0 : Nat)))) ((0 : Int))) (by kernel_rfl) ?_
      refine W.loop (fun (s_568 : Int) => (Cfg.mk Mode.run (headTodo Go.Proofs.Tryz.prog 18 0) (St.mk [AV.list (Ty.prod Ty.str (Ty.list Ty.str)) l_517 Bool.false, jj, jj, jj, jj, jj, jj, jj, jj, jj, jj, jj, AV.list (Ty.prod Ty.str (Ty.list Ty.str)) l_517 Bool.false, AV.int IntKind.i64 (↑(List.length l_517) : Int), AV.int IntKind.i64 s_568, jj, jj, jj, jj, jj, jj, jj, jj, jj, jj, jj, jj, jj, jj, jj, jj, jj, jj, jj, jj, jj, jj, jj, jj, jj, jj, jj, jj, jj, jj] [] (0 : Nat)))) (fun t => (Sum.elim (fun t_561 => r = ((1 : Int))) (fun t_562 => Walk Go.Proofs.Tryz.prog 18 (Cfg.mk Mode.run ((headTodo Go.Proofs.Tryz.prog 18 0).drop 3) (St.mk [jj, jj, jj, jj, jj, jj, jj, jj, jj, jj, jj, jj, jj, jj, jj, jj, jj, jj, jj, jj, jj, jj, jj, jj, jj, jj, jj, jj, jj, jj, jj, jj, jj, jj, jj, jj, jj, jj, jj, jj, jj, jj, jj, jj, jj] [] (0 : Nat))) (trigs_CheckFired_res r) (trigs_CheckFired_out r))) t) h (fun t h => ?_) (fun s_568 x564 h564 K564 => ?_)
      ·
        rcases t with t_561 | t_562
        · replace h := W.inl (h)
          refine W.elimL (?_)
          exact (Option.some.inj h).symm
        · replace h := W.inr (h)
          refine W.elimR (?_)
          exact W.retT 0 100000 h (by kernel_rfl)
      · unfold trigs_CheckFired_b0 at h564
        refine W.cond 2 100000 h564 (by kernel_rfl) (fun h564 => ?_) (fun h564 => ?_)
        ·
          refine W.needT 2 100000 h564 (by kernel_rfl) (fun h564 => ?_)
          refine W.bind h564 fun a_546 ha_546 h564 => ?_
          refine W.call 2 100000 (by kernel_rfl) (status_Trigger_con ha_546) (by kernel_rfl) ?_
          refine W.cond 2 100000 h564 (by kernel_rfl) (fun h564 => ?_) (fun h564 => ?_)
          ·
            refine W.yes 2 100000 (by kernel_rfl) ?_
            refine W.yes 2 100000 (by kernel_rfl) ?_
            refine W.yes 2 100000 (by kernel_rfl) ?_
            refine W.yes 2 100000 (by kernel_rfl) ?_
            refine W.yes 2 100000 (by kernel_rfl) ?_
            refine W.yes 2 100000 (by kernel_rfl) ?_
            refine W.yes 2 100000 (by kernel_rfl) ?_
            refine W.yes 2 100000 (by kernel_rfl) ?_
            refine W.yes 2 100000 (by kernel_rfl) ?_
            refine W.yes 2 100000 (by kernel_rfl) ?_
            cases h564; exact W.retK 2 100000 K564 (by kernel_rfl)
          ·
            refine W.no 2 100000 (by kernel_rfl) ?_
            refine W.no 2 100000 (by kernel_rfl) ?_
            refine W.bind h564 fun a_560 ha_560 h564 => ?_
            refine W.call 2 100000 (by kernel_rfl) (trigs_rising_con ha_560) (by kernel_rfl) ?_
            refine W.no 2 100000 (by kernel_rfl) ?_
            refine W.no 2 100000 (by kernel_rfl) ?_
            refine W.cond 2 100000 h564 (by kernel_rfl) (fun h564 => ?_) (fun h564 => ?_)
            ·
              refine W.yes 2 100000 (by kernel_rfl) ?_
              refine W.yes 2 100000 (by kernel_rfl) ?_
              refine W.yes 2 100000 (by kernel_rfl) ?_
              refine W.yes 2 100000 (by kernel_rfl) ?_
              refine W.yes 2 100000 (by kernel_rfl) ?_
              cases h564; exact W.retK 2 100000 K564 (by kernel_rfl)
            ·
              refine W.no 2 100000 (by kernel_rfl) ?_
              refine W.no 2 100000 (by kernel_rfl) ?_
              refine W.cond 2 100000 h564 (by kernel_rfl) (fun h564 => ?_) (fun h564 => ?_)
              ·
                refine W.yes 2 100000 (by kernel_rfl) ?_
                refine W.yes 2 100000 (by kernel_rfl) ?_
                refine W.yes 2 100000 (by kernel_rfl) ?_
                refine W.needT 2 100000 h564 (by kernel_rfl) (fun h564 => ?_)
                refine W.yes 2 100000 (by kernel_rfl) ?_
                refine W.yes 2 100000 (by kernel_rfl) ?_
                refine W.yes 2 100000 (by kernel_rfl) ?_
                refine W.yes 2 100000 (by kernel_rfl) ?_
                refine W.yes 2 100000 (by kernel_rfl) ?_
                refine W.no 2 100000 (by kernel_rfl) ?_
                refine W.yes 2 100000 (by kernel_rfl) ?_
                refine W.no 2 100000 (by kernel_rfl) ?_
                refine W.cond 2 100000 h564 (by kernel_rfl) (fun h564 => ?_) (fun h564 => ?_)
                ·
                  cases h564; exact W.retK 2 100000 K564 (by kernel_rfl)
                ·
                  cases h564; exact W.at 2 100000 [] [0, 12, 13, 14] (by kernel_rfl) K564
              ·
                refine W.no 2 100000 (by kernel_rfl) ?_
                refine W.no 2 100000 (by kernel_rfl) ?_
                refine W.no 2 100000 (by kernel_rfl) ?_
                refine W.no 2 100000 (by kernel_rfl) ?_
                refine W.no 2 100000 (by kernel_rfl) ?_
                refine W.no 2 100000 (by kernel_rfl) ?_
                refine W.no 2 100000 (by kernel_rfl) ?_
                refine W.no 2 100000 (by kernel_rfl) ?_
                refine W.no 2 100000 (by kernel_rfl) ?_
                refine W.no 2 100000 (by kernel_rfl) ?_
                refine W.no 2 100000 (by kernel_rfl) ?_
                refine W.no 2 100000 (by kernel_rfl) ?_
                cases h564; exact W.at 2 100000 [] [0, 12, 13, 14] (by kernel_rfl) K564
        ·
          cases h564; exact W.at 2 100000 [] [] (by kernel_rfl) K564
  · refine W.next 0 5 (by kernel_rfl) ?_
    refine W.cond 1 100000 h565 (by kernel_rfl) (fun h565 => ?_) (fun h565 => ?_)
    ·
      refine W.yes 1 100000 (by kernel_rfl) ?_
      refine W.yes 1 100000 (by kernel_rfl) ?_
      refine W.yes 1 100000 (by kernel_rfl) ?_
      cases h565; exact W.retK 1 100000 K565 (by kernel_rfl)
    ·
      refine W.no 1 100000 (by kernel_rfl) ?_
      refine W.bind h565 fun a_539 ha_539 h565 => ?_
      refine W.call 1 100000 (by kernel_rfl) (api_Fired__43_con ha_539) (by kernel_rfl) ?_
      refine W.no 1 100000 (by kernel_rfl) ?_
      refine W.cond 1 100000 h565 (by kernel_rfl) (fun h565 => ?_) (fun h565 => ?_)
      ·
        cases h565; exact W.retK 1 100000 K565 (by kernel_rfl)
      ·
        cases h565; exact W.at 1 100000 [] [0] (by kernel_rfl) K565

theorem trigs_PrintFired_con {l_516 : List (List UInt8 × List (List UInt8))} {r : List UInt8 × Int} (h : trigs_PrintFired l_516 = some r) : Con Go.Proofs.Tryz.prog 16 [AV.list (Ty.prod Ty.str (Ty.list Ty.str)) l_516 Bool.false] [] (trigs_PrintFired_res r) (trigs_PrintFired_out r) := by
  refine W.con (by kernel_rfl) ?_
  unfold trigs_PrintFired at h
  refine W.bind h fun a_569 ha_569 h => ?_
  refine W.call 0 100000 (by kernel_rfl) (trigs_CheckFired_con ha_569) (by kernel_rfl) ?_
  refine W.cond 0 100000 h (by kernel_rfl) (fun h => ?_) (fun h => ?_)
  ·
    exact W.retT 0 100000 h (by kernel_rfl)
  ·
    refine W.at 0 100000 [] [5, 14, 15, 16] (c' := (fun (s_585 : List UInt8 × Int) => (Cfg.mk Mode.run (headTodo Go.Proofs.Tryz.prog 16 0) (St.mk [jj, jj, jj, jj, jj, AV.str (Prod.fst s_585), jj, jj, jj, jj, jj, jj, jj, jj, AV.list (Ty.prod Ty.str (Ty.list Ty.str)) l_516 Bool.false, AV.int IntKind.i64 (↑(List.length l_516) : Int), AV.int IntKind.i64 (Prod.snd s_585), jj, jj, jj, jj, jj, jj, jj, jj, jj, jj, jj, jj, jj, jj, jj, jj, jj, jj] [] (0 : Nat)))) ([], (0 : Int))) (by kernel_rfl) ?_
    refine W.loop (fun (s_585 : List UInt8 × Int) => (Cfg.mk Mode.run (headTodo Go.Proofs.Tryz.prog 16 0) (St.mk [jj, jj, jj, jj, jj, AV.str (Prod.fst s_585), jj, jj, jj, jj, jj, jj, jj, jj, AV.list (Ty.prod Ty.str (Ty.list Ty.str)) l_516 Bool.false, AV.int IntKind.i64 (↑(List.length l_516) : Int), AV.int IntKind.i64 (Prod.snd s_585), jj, jj, jj, jj, jj, jj, jj, jj, jj, jj, jj, jj, jj, jj, jj, jj, jj, jj] [] (0 : Nat)))) (fun t_579 => Walk Go.Proofs.Tryz.prog 16 (Cfg.mk Mode.run ((headTodo Go.Proofs.Tryz.prog 16 0).drop 3) (St.mk [jj, jj, jj, jj, jj, AV.str t_579, jj, jj, jj, jj, jj, jj, jj, jj, jj, jj, jj, jj, jj, jj, jj, jj, jj, jj, jj, jj, jj, jj, jj, jj, jj, jj, jj, jj, jj] [] (0 : Nat))) (trigs_PrintFired_res r) (trigs_PrintFired_out r)) h (fun t_579 h => ?_) (fun s_585 x581 h581 K581 => ?_)
    ·
      exact W.retT 0 100000 h (by kernel_rfl)
    · unfold trigs_PrintFired_b0 at h581
      refine W.cond 2 100000 h581 (by kernel_rfl) (fun h581 => ?_) (fun h581 => ?_)
      ·
        refine W.needT 2 100000 h581 (by kernel_rfl) (fun h581 => ?_)
        refine W.bind h581 fun a_574 ha_574 h581 => ?_
        refine W.call 2 100000 (by kernel_rfl) (strings_Join_con ha_574) (by kernel_rfl) ?_
        refine W.join (fun t_576 => Walk Go.Proofs.Tryz.prog 16 (Cfg.mk Mode.run (seqTodo Go.Proofs.Tryz.prog 16 13) (St.mk [jj, jj, jj, jj, jj, AV.str (Prod.fst s_585), jj, AV.ptr (0 : Nat) (0 : Nat), AV.str t_576, jj, jj, jj, jj, jj, AV.list (Ty.prod Ty.str (Ty.list Ty.str)) l_516 Bool.false, AV.int IntKind.i64 (↑(List.length l_516) : Int), AV.int IntKind.i64 (Prod.snd s_585), jj, jj, jj, jj, jj, jj, jj, jj, jj, jj, jj, jj, jj, jj, jj, jj, jj, jj] [AO.box [AV.str (Prod.fst (List.getD l_516 (Int.toNat (Prod.snd s_585)) ([], []))), AV.list Ty.str (Prod.snd (List.getD l_516 (Int.toNat (Prod.snd s_585)) ([], []))) Bool.false]] (0 : Nat))) (trigs_PrintFired_res r) (trigs_PrintFired_out r)) h581 (fun t_576 h581 => ?_) (fun t578 h578 K578 => ?_)
        ·
          refine W.needT 2 100000 h581 (by kernel_rfl) (fun h581 => ?_)
          refine W.needT 2 100000 h581 (by kernel_rfl) (fun h581 => ?_)
          refine W.needT 2 100000 h581 (by kernel_rfl) (fun h581 => ?_)
          refine W.needT 2 100000 h581 (by kernel_rfl) (fun h581 => ?_)
          cases h581; exact W.at 2 100000 [] [5, 14, 15, 16] (by kernel_rfl) K581
        · refine W.next 2 3 (by kernel_rfl) ?_
          refine W.cond 6 100000 h578 (by kernel_rfl) (fun h578 => ?_) (fun h578 => ?_)
          ·
            cases h578; exact W.at 6 100000 [] [5, 7, 8, 14, 15, 16] (by kernel_rfl) K578
          ·
            cases h578; exact W.at 6 100000 [] [5, 7, 8, 14, 15, 16] (by kernel_rfl) K578
      ·
        cases h581; exact W.at 2 100000 [] [5] (by kernel_rfl) K581

theorem path_Join_con {dir_596 : List UInt8} {name_597 : List UInt8} {r : List UInt8} (h : path_Join dir_596 name_597 = some r) : Con Go.Proofs.Tryz.prog 85 [AV.str dir_596, AV.str name_597] [] (path_Join_res r) (path_Join_out r) := by
  refine W.con (by kernel_rfl) ?_
  unfold path_Join at h
  refine W.bind h fun a_598 ha_598 h => ?_
  refine W.call 0 100000 (by kernel_rfl) (strings_HasSuffix_con ha_598) (by kernel_rfl) ?_
  refine W.cond 0 100000 h (by kernel_rfl) (fun h => ?_) (fun h => ?_)
  ·
    refine W.needT 0 100000 h (by kernel_rfl) (fun h => ?_)
    exact W.retT 0 100000 h (by kernel_rfl)
  ·
    refine W.needT 0 100000 h (by kernel_rfl) (fun h => ?_)
    refine W.needT 0 100000 h (by kernel_rfl) (fun h => ?_)
    exact W.retT 0 100000 h (by kernel_rfl)

theorem path_Under_con {dir_594 : List UInt8} {s_595 : List UInt8} {r : Bool} (h : path_Under dir_594 s_595 = some r) : Con Go.Proofs.Tryz.prog 68 [AV.str dir_594, AV.str s_595] [] (path_Under_res r) (path_Under_out r) := by
  refine W.con (by kernel_rfl) ?_
  unfold path_Under at h
  refine W.bind h fun a_601 ha_601 h => ?_
  refine W.call 0 100000 (by kernel_rfl) (path_Join_con ha_601) (by kernel_rfl) ?_
  refine W.bind h fun a_602 ha_602 h => ?_
  refine W.call 0 100000 (by kernel_rfl) (strings_HasPrefix_con ha_602) (by kernel_rfl) ?_
  refine W.cond 0 100000 h (by kernel_rfl) (fun h => ?_) (fun h => ?_)
  ·
    refine W.yes 0 100000 (by kernel_rfl) ?_
    refine W.yes 0 100000 (by kernel_rfl) ?_
    refine W.yes 0 100000 (by kernel_rfl) ?_
    refine W.yes 0 100000 (by kernel_rfl) ?_
    refine W.yes 0 100000 (by kernel_rfl) ?_
    exact W.retT 0 100000 h (by kernel_rfl)
  ·
    refine W.no 0 100000 (by kernel_rfl) ?_
    refine W.no 0 100000 (by kernel_rfl) ?_
    refine W.no 0 100000 (by kernel_rfl) ?_
    refine W.no 0 100000 (by kernel_rfl) ?_
    refine W.no 0 100000 (by kernel_rfl) ?_
    exact W.retT 0 100000 h (by kernel_rfl)

theorem trigs_Files_con {l_587 : List (List UInt8 × List UInt8 × Bool)} {p_588 : List UInt8} {r : List (List UInt8)} (h : trigs_Files l_587 p_588 = some r) : Con Go.Proofs.Tryz.prog 32 [AV.list (Ty.prod Ty.str (Ty.prod Ty.str Ty.bool)) l_587 Bool.false, AV.str p_588] [] (trigs_Files_res r) (trigs_Files_out r) := by
  refine W.con (by kernel_rfl) ?_
  unfold trigs_Files at h
  refine W.at 0 100000 [Co.own 5 (Ty.str)] [1, 5, 8, 9, 10] (c' := (fun (s_620 : Int × List (List UInt8)) => (Cfg.mk Mode.run (headTodo Go.Proofs.Tryz.prog 32 0) (St.mk [jj, AV.str p_588, jj, jj, jj, AV.view (0 : Nat) (0 : Nat) Option.none, jj, jj, AV.list (Ty.prod Ty.str (Ty.prod Ty.str Ty.bool)) l_587 Bool.false, AV.int IntKind.i64 (↑(List.length l_587) : Int), AV.int IntKind.i64 (Prod.fst s_620), jj, jj, jj, jj, jj, jj, jj, jj, jj, jj, jj, jj, jj, jj, jj, jj, jj, jj, jj, jj, jj, jj, jj, jj, jj, jj] [AO.row Ty.str (Prod.snd s_620)] (0 : Nat)))) ((0 : Int), [])) (by kernel_rfl) ?_
  refine W.loop (fun (s_620 : Int × List (List UInt8)) => (Cfg.mk Mode.run (headTodo Go.Proofs.Tryz.prog 32 0) (St.mk [jj, AV.str p_588, jj, jj, jj, AV.view (0 : Nat) (0 : Nat) Option.none, jj, jj, AV.list (Ty.prod Ty.str (Ty.prod Ty.str Ty.bool)) l_587 Bool.false, AV.int IntKind.i64 (↑(List.length l_587) : Int), AV.int IntKind.i64 (Prod.fst s_620), jj, jj, jj, jj, jj, jj, jj, jj, jj, jj, jj, jj, jj, jj, jj, jj, jj, jj, jj, jj, jj, jj, jj, jj, jj, jj] [AO.row Ty.str (Prod.snd s_620)] (0 : Nat)))) (fun t_614 => Walk Go.Proofs.Tryz.prog 32 (Cfg.mk Mode.run ((headTodo Go.Proofs.Tryz.prog 32 0).drop 3) (St.mk [jj, jj, jj, jj, jj, AV.view (0 : Nat) (0 : Nat) Option.none, jj, jj, jj, jj, jj, jj, jj, jj, jj, jj, jj, jj, jj, jj, jj, jj, jj, jj, jj, jj, jj, jj, jj, jj, jj, jj, jj, jj, jj, jj, jj] [AO.row Ty.str t_614] (0 : Nat))) (trigs_Files_res r) (trigs_Files_out r)) h (fun t_614 h => ?_) (fun s_620 x617 h617 K617 => ?_)
  ·
    refine W.bind h fun a_615 ha_615 h => ?_
    refine W.call 0 100000 (by kernel_rfl) (path_Sorted_con ha_615) (by kernel_rfl) ?_
    exact W.retT 0 100000 h (by kernel_rfl)
  · unfold trigs_Files_b0 at h617
    refine W.cond 2 100000 h617 (by kernel_rfl) (fun h617 => ?_) (fun h617 => ?_)
    ·
      refine W.needT 2 100000 h617 (by kernel_rfl) (fun h617 => ?_)
      refine W.bind h617 fun a_611 ha_611 h617 => ?_
      refine W.call 2 100000 (by kernel_rfl) (path_Right_con ha_611) (by kernel_rfl) ?_
      refine W.cond 2 100000 h617 (by kernel_rfl) (fun h617 => ?_) (fun h617 => ?_)
      ·
        refine W.yes 2 100000 (by kernel_rfl) ?_
        refine W.yes 2 100000 (by kernel_rfl) ?_
        refine W.yes 2 100000 (by kernel_rfl) ?_
        refine W.yes 2 100000 (by kernel_rfl) ?_
        refine W.cond 2 100000 h617 (by kernel_rfl) (fun h617 => ?_) (fun h617 => ?_)
        ·
          refine W.yes 2 100000 (by kernel_rfl) ?_
          refine W.yes 2 100000 (by kernel_rfl) ?_
          refine W.yes 2 100000 (by kernel_rfl) ?_
          refine W.yes 2 100000 (by kernel_rfl) ?_
          refine W.yes 2 100000 (by kernel_rfl) ?_
          refine W.yes 2 100000 (by kernel_rfl) ?_
          refine W.yes 2 100000 (by kernel_rfl) ?_
          refine W.needT 2 100000 h617 (by kernel_rfl) (fun h617 => ?_)
          cases h617; exact W.at 2 100000 [Co.own 5 (Ty.str)] [1, 5, 8, 9, 10] (by kernel_rfl) K617
        ·
          refine W.no 2 100000 (by kernel_rfl) ?_
          refine W.no 2 100000 (by kernel_rfl) ?_
          refine W.no 2 100000 (by kernel_rfl) ?_
          refine W.bind h617 fun a_612 ha_612 h617 => ?_
          refine W.call 2 100000 (by kernel_rfl) (path_Under_con ha_612) (by kernel_rfl) ?_
          refine W.yes 2 100000 (by kernel_rfl) ?_
          refine W.no 2 100000 (by kernel_rfl) ?_
          refine W.yes 2 100000 (by kernel_rfl) ?_
          refine W.cond 2 100000 h617 (by kernel_rfl) (fun h617 => ?_) (fun h617 => ?_)
          ·
            refine W.needT 2 100000 h617 (by kernel_rfl) (fun h617 => ?_)
            cases h617; exact W.at 2 100000 [Co.own 5 (Ty.str)] [1, 5, 8, 9, 10] (by kernel_rfl) K617
          ·
            cases h617; exact W.at 2 100000 [Co.own 5 (Ty.str)] [1, 5, 8, 9, 10] (by kernel_rfl) K617
      ·
        refine W.no 2 100000 (by kernel_rfl) ?_
        refine W.no 2 100000 (by kernel_rfl) ?_
        refine W.no 2 100000 (by kernel_rfl) ?_
        refine W.no 2 100000 (by kernel_rfl) ?_
        refine W.no 2 100000 (by kernel_rfl) ?_
        refine W.no 2 100000 (by kernel_rfl) ?_
        refine W.no 2 100000 (by kernel_rfl) ?_
        cases h617; exact W.at 2 100000 [Co.own 5 (Ty.str)] [1, 5, 8, 9, 10] (by kernel_rfl) K617
    ·
      cases h617; exact W.at 2 100000 [] [5] (by kernel_rfl) K617

theorem cellarerref02_Same_con {a_622 : List (List UInt8)} {b_623 : List (List UInt8)} {r : Bool} (h : cellarerref02_Same a_622 b_623 = some r) : Con Go.Proofs.Tryz.prog 31 [AV.list Ty.str a_622 Bool.false, AV.list Ty.str b_623 Bool.false] [] (cellarerref02_Same_res r) (cellarerref02_Same_out r) := by
  refine W.con (by kernel_rfl) ?_
  unfold cellarerref02_Same at h
  refine W.cond 0 100000 h (by kernel_rfl) (fun h => ?_) (fun h => ?_)
  ·
    exact W.retT 0 100000 h (by kernel_rfl)
  ·
    refine W.at 0 100000 [] [0, 1, 5] (c' := (fun (s_633 : Int) => (Cfg.mk Mode.run (headTodo Go.Proofs.Tryz.prog 31 0) (St.mk [AV.list Ty.str a_622 Bool.false, AV.list Ty.str b_623 Bool.false, jj, jj, jj, AV.int IntKind.i64 s_633, jj, jj, jj, jj, jj, jj, jj, jj, jj, jj, jj, jj, jj, jj, jj, jj, jj, jj, jj, jj] [] (0 : Nat)))) ((0 : Int))) (by kernel_rfl) ?_
    refine W.loop (fun (s_633 : Int) => (Cfg.mk Mode.run (headTodo Go.Proofs.Tryz.prog 31 0) (St.mk [AV.list Ty.str a_622 Bool.false, AV.list Ty.str b_623 Bool.false, jj, jj, jj, AV.int IntKind.i64 s_633, jj, jj, jj, jj, jj, jj, jj, jj, jj, jj, jj, jj, jj, jj, jj, jj, jj, jj, jj, jj] [] (0 : Nat)))) (fun t => (Sum.elim (fun t_627 => r = (Bool.false)) (fun t_628 => Walk Go.Proofs.Tryz.prog 31 (Cfg.mk Mode.run ((headTodo Go.Proofs.Tryz.prog 31 0).drop 3) (St.mk [jj, jj, jj, jj, jj, jj, jj, jj, jj, jj, jj, jj, jj, jj, jj, jj, jj, jj, jj, jj, jj, jj, jj, jj, jj, jj] [] (0 : Nat))) (cellarerref02_Same_res r) (cellarerref02_Same_out r))) t) h (fun t h => ?_) (fun s_633 x630 h630 K630 => ?_)
    ·
      rcases t with t_627 | t_628
      · replace h := W.inl (h)
        refine W.elimL (?_)
        exact (Option.some.inj h).symm
      · replace h := W.inr (h)
        refine W.elimR (?_)
        exact W.retT 0 100000 h (by kernel_rfl)
    · unfold cellarerref02_Same_b0 at h630
      refine W.cond 2 100000 h630 (by kernel_rfl) (fun h630 => ?_) (fun h630 => ?_)
      ·
        refine W.needT 2 100000 h630 (by kernel_rfl) (fun h630 => ?_)
        refine W.needT 2 100000 h630 (by kernel_rfl) (fun h630 => ?_)
        refine W.cond 2 100000 h630 (by kernel_rfl) (fun h630 => ?_) (fun h630 => ?_)
        ·
          cases h630; exact W.retK 2 100000 K630 (by kernel_rfl)
        ·
          cases h630; exact W.at 2 100000 [] [0, 1, 5] (by kernel_rfl) K630
      ·
        cases h630; exact W.at 2 100000 [] [] (by kernel_rfl) K630

theorem cellarerlaw12_awake_con  {r : Bool} (h : cellarerlaw12_awake  = some r) : Con Go.Proofs.Tryz.prog 8 [] [] (cellarerlaw12_awake_res r) (cellarerlaw12_awake_out r) := by
  refine W.con (by kernel_rfl) ?_
  unfold cellarerlaw12_awake at h
  refine W.bind h fun a_409 ha_409 h => ?_
  refine W.call 0 100000 (by kernel_rfl) (trigs_Parse_con ha_409) (by kernel_rfl) ?_
  refine W.bind h fun a_410 ha_410 h => ?_
  refine W.call 0 100000 (by kernel_rfl) (trigs_Print_con ha_410) (by kernel_rfl) ?_
  refine W.bind h fun a_515 ha_515 h => ?_
  refine W.call 0 100000 (by kernel_rfl) (trigs_Fire_con ha_515) (by kernel_rfl) ?_
  refine W.bind h fun a_586 ha_586 h => ?_
  refine W.call 0 100000 (by kernel_rfl) (trigs_PrintFired_con ha_586) (by kernel_rfl) ?_
  refine W.cond 0 100000 h (by kernel_rfl) (fun h => ?_) (fun h => ?_)
  ·
    refine W.yes 0 100000 (by kernel_rfl) ?_
    refine W.yes 0 100000 (by kernel_rfl) ?_
    refine W.cond 0 100000 h (by kernel_rfl) (fun h => ?_) (fun h => ?_)
    ·
      refine W.yes 0 100000 (by kernel_rfl) ?_
      refine W.yes 0 100000 (by kernel_rfl) ?_
      refine W.cond 0 100000 h (by kernel_rfl) (fun h => ?_) (fun h => ?_)
      ·
        refine W.yes 0 100000 (by kernel_rfl) ?_
        refine W.bind h fun a_621 ha_621 h => ?_
        refine W.call 0 100000 (by kernel_rfl) (trigs_Files_con ha_621) (by kernel_rfl) ?_
        refine W.yes 0 100000 (by kernel_rfl) ?_
        refine W.yes 0 100000 (by kernel_rfl) ?_
        refine W.bind h fun a_634 ha_634 h => ?_
        refine W.call 0 100000 (by kernel_rfl) (cellarerref02_Same_con ha_634) (by kernel_rfl) ?_
        refine W.yes 0 100000 (by kernel_rfl) ?_
        refine W.cond 0 100000 h (by kernel_rfl) (fun h => ?_) (fun h => ?_)
        ·
          refine W.yes 0 100000 (by kernel_rfl) ?_
          refine W.yes 0 100000 (by kernel_rfl) ?_
          refine W.cond 0 100000 h (by kernel_rfl) (fun h => ?_) (fun h => ?_)
          ·
            refine W.yes 0 100000 (by kernel_rfl) ?_
            refine W.yes 0 100000 (by kernel_rfl) ?_
            exact W.retT 0 100000 h (by kernel_rfl)
          ·
            refine W.no 0 100000 (by kernel_rfl) ?_
            refine W.no 0 100000 (by kernel_rfl) ?_
            exact W.retT 0 100000 h (by kernel_rfl)
        ·
          refine W.no 0 100000 (by kernel_rfl) ?_
          refine W.no 0 100000 (by kernel_rfl) ?_
          refine W.no 0 100000 (by kernel_rfl) ?_
          refine W.no 0 100000 (by kernel_rfl) ?_
          refine W.no 0 100000 (by kernel_rfl) ?_
          exact W.retT 0 100000 h (by kernel_rfl)
      ·
        refine W.no 0 100000 (by kernel_rfl) ?_
        refine W.no 0 100000 (by kernel_rfl) ?_
        refine W.no 0 100000 (by kernel_rfl) ?_
        refine W.no 0 100000 (by kernel_rfl) ?_
        refine W.no 0 100000 (by kernel_rfl) ?_
        refine W.no 0 100000 (by kernel_rfl) ?_
        refine W.no 0 100000 (by kernel_rfl) ?_
        refine W.no 0 100000 (by kernel_rfl) ?_
        refine W.no 0 100000 (by kernel_rfl) ?_
        refine W.no 0 100000 (by kernel_rfl) ?_
        exact W.retT 0 100000 h (by kernel_rfl)
    ·
      refine W.no 0 100000 (by kernel_rfl) ?_
      refine W.no 0 100000 (by kernel_rfl) ?_
      refine W.no 0 100000 (by kernel_rfl) ?_
      refine W.no 0 100000 (by kernel_rfl) ?_
      refine W.no 0 100000 (by kernel_rfl) ?_
      refine W.no 0 100000 (by kernel_rfl) ?_
      refine W.no 0 100000 (by kernel_rfl) ?_
      refine W.no 0 100000 (by kernel_rfl) ?_
      refine W.no 0 100000 (by kernel_rfl) ?_
      refine W.no 0 100000 (by kernel_rfl) ?_
      refine W.no 0 100000 (by kernel_rfl) ?_
      refine W.no 0 100000 (by kernel_rfl) ?_
      refine W.no 0 100000 (by kernel_rfl) ?_
      exact W.retT 0 100000 h (by kernel_rfl)
  ·
    refine W.no 0 100000 (by kernel_rfl) ?_
    refine W.no 0 100000 (by kernel_rfl) ?_
    refine W.no 0 100000 (by kernel_rfl) ?_
    refine W.no 0 100000 (by kernel_rfl) ?_
    refine W.no 0 100000 (by kernel_rfl) ?_
    refine W.no 0 100000 (by kernel_rfl) ?_
    refine W.no 0 100000 (by kernel_rfl) ?_
    refine W.no 0 100000 (by kernel_rfl) ?_
    refine W.no 0 100000 (by kernel_rfl) ?_
    refine W.no 0 100000 (by kernel_rfl) ?_
    refine W.no 0 100000 (by kernel_rfl) ?_
    refine W.no 0 100000 (by kernel_rfl) ?_
    refine W.no 0 100000 (by kernel_rfl) ?_
    refine W.no 0 100000 (by kernel_rfl) ?_
    refine W.no 0 100000 (by kernel_rfl) ?_
    refine W.no 0 100000 (by kernel_rfl) ?_
    exact W.retT 0 100000 h (by kernel_rfl)

theorem cellarerlaw12_TrigsPrints_con {l_638 : List (List UInt8 × List UInt8 × Bool)} {r : Bool} (h : cellarerlaw12_TrigsPrints l_638 = some r) : Con Go.Proofs.Tryz.prog 3 [AV.list (Ty.prod Ty.str (Ty.prod Ty.str Ty.bool)) l_638 Bool.false] [] (cellarerlaw12_TrigsPrints_res r) (cellarerlaw12_TrigsPrints_out r) := by
  refine W.con (by kernel_rfl) ?_
  unfold cellarerlaw12_TrigsPrints at h
  refine W.bind h fun a_639 ha_639 h => ?_
  refine W.call 0 100000 (by kernel_rfl) (cellarerlaw12_Few_con ha_639) (by kernel_rfl) ?_
  refine W.cond 0 100000 h (by kernel_rfl) (fun h => ?_) (fun h => ?_)
  ·
    refine W.bind h fun a_640 ha_640 h => ?_
    refine W.call 0 100000 (by kernel_rfl) (cellarerlaw12_awake_con ha_640) (by kernel_rfl) ?_
    exact W.retT 0 100000 h (by kernel_rfl)
  ·
    refine W.bind h fun a_641 ha_641 h => ?_
    refine W.call 0 100000 (by kernel_rfl) (trigs_Print_con ha_641) (by kernel_rfl) ?_
    refine W.bind h fun a_642 ha_642 h => ?_
    refine W.call 0 100000 (by kernel_rfl) (cellarerref12_Print_con ha_642) (by kernel_rfl) ?_
    refine W.join (fun t => (Sum.elim (fun t_645 => r = (Bool.false)) (fun t_646 => Walk Go.Proofs.Tryz.prog 3 (Cfg.mk Mode.run (seqTodo Go.Proofs.Tryz.prog 3 6) (St.mk [AV.list (Ty.prod Ty.str (Ty.prod Ty.str Ty.bool)) l_638 Bool.false, jj, jj, AV.str (Prod.fst a_641), AV.int IntKind.i64 (Prod.snd a_641), jj, jj, jj, jj, jj, jj, jj, jj, jj, jj, jj, jj, jj, jj, jj, jj, jj, jj, jj, jj, jj, jj, jj, jj, jj, jj, jj, jj, jj, jj, jj, jj, jj, jj, jj, jj, jj, jj, jj, jj, jj, jj, jj, jj, jj, jj, jj, jj, jj, jj, jj] [] (0 : Nat))) (cellarerlaw12_TrigsPrints_res r) (cellarerlaw12_TrigsPrints_out r))) t) h (fun t h => ?_) (fun t652 h652 K652 => ?_)
    ·
      rcases t with t_645 | t_646
      · replace h := W.inl (h)
        refine W.elimL (?_)
        exact (Option.some.inj h).symm
      · replace h := W.inr (h)
        refine W.elimR (?_)
        refine W.cond 0 100000 h (by kernel_rfl) (fun h => ?_) (fun h => ?_)
        ·
          refine W.bind h fun a_647 ha_647 h => ?_
          refine W.call 0 100000 (by kernel_rfl) (cellarerlaw12_awake_con ha_647) (by kernel_rfl) ?_
          exact W.retT 0 100000 h (by kernel_rfl)
        ·
          refine W.bind h fun a_648 ha_648 h => ?_
          refine W.call 0 100000 (by kernel_rfl) (trigs_Parse_con ha_648) (by kernel_rfl) ?_
          refine W.cond 0 100000 h (by kernel_rfl) (fun h => ?_) (fun h => ?_)
          ·
            refine W.yes 0 100000 (by kernel_rfl) ?_
            refine W.yes 0 100000 (by kernel_rfl) ?_
            refine W.bind h fun a_649 ha_649 h => ?_
            refine W.call 0 100000 (by kernel_rfl) (cellarerref12_Same_con ha_649) (by kernel_rfl) ?_
            refine W.yes 0 100000 (by kernel_rfl) ?_
            refine W.cond 0 100000 h (by kernel_rfl) (fun h => ?_) (fun h => ?_)
            ·
              refine W.bind h fun a_650 ha_650 h => ?_
              refine W.call 0 100000 (by kernel_rfl) (cellarerlaw12_awake_con ha_650) (by kernel_rfl) ?_
              refine W.yes 0 100000 (by kernel_rfl) ?_
              exact W.retT 0 100000 h (by kernel_rfl)
            ·
              refine W.no 0 100000 (by kernel_rfl) ?_
              exact W.retT 0 100000 h (by kernel_rfl)
          ·
            refine W.no 0 100000 (by kernel_rfl) ?_
            refine W.no 0 100000 (by kernel_rfl) ?_
            refine W.no 0 100000 (by kernel_rfl) ?_
            refine W.no 0 100000 (by kernel_rfl) ?_
            refine W.no 0 100000 (by kernel_rfl) ?_
            exact W.retT 0 100000 h (by kernel_rfl)
    · refine W.next 0 7 (by kernel_rfl) ?_
      refine W.cond 1 100000 h652 (by kernel_rfl) (fun h652 => ?_) (fun h652 => ?_)
      ·
        refine W.yes 1 100000 (by kernel_rfl) ?_
        refine W.yes 1 100000 (by kernel_rfl) ?_
        refine W.yes 1 100000 (by kernel_rfl) ?_
        refine W.yes 1 100000 (by kernel_rfl) ?_
        refine W.yes 1 100000 (by kernel_rfl) ?_
        refine W.yes 1 100000 (by kernel_rfl) ?_
        refine W.yes 1 100000 (by kernel_rfl) ?_
        refine W.yes 1 100000 (by kernel_rfl) ?_
        refine W.yes 1 100000 (by kernel_rfl) ?_
        refine W.yes 1 100000 (by kernel_rfl) ?_
        cases h652; exact W.retK 1 100000 K652 (by kernel_rfl)
      ·
        refine W.no 1 100000 (by kernel_rfl) ?_
        refine W.no 1 100000 (by kernel_rfl) ?_
        refine W.no 1 100000 (by kernel_rfl) ?_
        refine W.cond 1 100000 h652 (by kernel_rfl) (fun h652 => ?_) (fun h652 => ?_)
        ·
          refine W.yes 1 100000 (by kernel_rfl) ?_
          refine W.yes 1 100000 (by kernel_rfl) ?_
          refine W.yes 1 100000 (by kernel_rfl) ?_
          refine W.yes 1 100000 (by kernel_rfl) ?_
          refine W.yes 1 100000 (by kernel_rfl) ?_
          refine W.yes 1 100000 (by kernel_rfl) ?_
          cases h652; exact W.retK 1 100000 K652 (by kernel_rfl)
        ·
          refine W.no 1 100000 (by kernel_rfl) ?_
          refine W.bind h652 fun a_643 ha_643 h652 => ?_
          refine W.call 1 100000 (by kernel_rfl) (trigs_Check_con ha_643) (by kernel_rfl) ?_
          refine W.no 1 100000 (by kernel_rfl) ?_
          refine W.no 1 100000 (by kernel_rfl) ?_
          refine W.bind h652 fun a_644 ha_644 h652 => ?_
          refine W.call 1 100000 (by kernel_rfl) (cellarerref12_Check_con ha_644) (by kernel_rfl) ?_
          refine W.no 1 100000 (by kernel_rfl) ?_
          refine W.no 1 100000 (by kernel_rfl) ?_
          refine W.cond 1 100000 h652 (by kernel_rfl) (fun h652 => ?_) (fun h652 => ?_)
          ·
            cases h652; exact W.retK 1 100000 K652 (by kernel_rfl)
          ·
            cases h652; exact W.at 1 100000 [] [0, 3, 4] (by kernel_rfl) K652

theorem trigs_Set_1_con {x_666 : List UInt8} {x_667 : List UInt8} {x_668 : Bool} {o0_669 : List UInt8} {r : Bool × List UInt8} (h : trigs_Set_1 x_666 x_667 x_668 o0_669 = some r) : Con Go.Proofs.Tryz.prog 53 [AV.agg [AV.str x_666, AV.str x_667, AV.bool x_668], AV.ptr (0 : Nat) (0 : Nat)] [AO.box [AV.str o0_669]] (trigs_Set_1_res r) (trigs_Set_1_out r) := by
  refine W.con (by kernel_rfl) ?_
  unfold trigs_Set_1 at h
  exact W.retT 0 100000 h (by kernel_rfl)

theorem trigs_some_con {l_660 : List (List UInt8 × List UInt8 × Bool)} {o0_661 : List UInt8} {r : List UInt8 × List (List UInt8 × List UInt8 × Bool)} (h : trigs_some l_660 o0_661 = some r) : Con Go.Proofs.Tryz.prog 52 [AV.list (Ty.prod Ty.str (Ty.prod Ty.str Ty.bool)) l_660 Bool.false, AV.func (Go.Fn.func (53 : Nat)) [] [AV.ptr (0 : Nat) (0 : Nat)]] [AO.box [AV.str o0_661]] (trigs_some_res r) (trigs_some_out r) := by
  refine W.con (by kernel_rfl) ?_
  unfold trigs_some at h
  refine W.at 0 100000 [Co.own 5 (Ty.prod Ty.str (Ty.prod Ty.str Ty.bool))] [1, 5, 8, 9, 10] (c' := (fun (s_688 : Int × List UInt8 × List (List UInt8 × List UInt8 × Bool)) => (Cfg.mk Mode.run (headTodo Go.Proofs.Tryz.prog 52 0) (St.mk [jj, AV.func (Go.Fn.func (53 : Nat)) [] [AV.ptr (0 : Nat) (0 : Nat)], jj, jj, jj, AV.view (1 : Nat) (0 : Nat) Option.none, jj, jj, AV.list (Ty.prod Ty.str (Ty.prod Ty.str Ty.bool)) l_660 Bool.false, AV.int IntKind.i64 (↑(List.length l_660) : Int), AV.int IntKind.i64 (Prod.fst s_688), jj, jj, jj, jj, jj, jj, jj, jj, jj, jj, jj, jj] [AO.box [AV.str (Prod.fst (Prod.snd s_688))], AO.row (Ty.prod Ty.str (Ty.prod Ty.str Ty.bool)) (Prod.snd (Prod.snd s_688))] (1 : Nat)))) ((0 : Int), o0_661, [])) (by kernel_rfl) ?_
  refine W.loop (fun (s_688 : Int × List UInt8 × List (List UInt8 × List UInt8 × Bool)) => (Cfg.mk Mode.run (headTodo Go.Proofs.Tryz.prog 52 0) (St.mk [jj, AV.func (Go.Fn.func (53 : Nat)) [] [AV.ptr (0 : Nat) (0 : Nat)], jj, jj, jj, AV.view (1 : Nat) (0 : Nat) Option.none, jj, jj, AV.list (Ty.prod Ty.str (Ty.prod Ty.str Ty.bool)) l_660 Bool.false, AV.int IntKind.i64 (↑(List.length l_660) : Int), AV.int IntKind.i64 (Prod.fst s_688), jj, jj, jj, jj, jj, jj, jj, jj, jj, jj, jj, jj] [AO.box [AV.str (Prod.fst (Prod.snd s_688))], AO.row (Ty.prod Ty.str (Ty.prod Ty.str Ty.bool)) (Prod.snd (Prod.snd s_688))] (1 : Nat)))) (fun t_682 => Walk Go.Proofs.Tryz.prog 52 (Cfg.mk Mode.run ((headTodo Go.Proofs.Tryz.prog 52 0).drop 3) (St.mk [jj, jj, jj, jj, jj, AV.view (1 : Nat) (0 : Nat) Option.none, jj, jj, jj, jj, jj, jj, jj, jj, jj, jj, jj, jj, jj, jj, jj, jj, jj] [AO.box [AV.str (Prod.fst t_682)], AO.row (Ty.prod Ty.str (Ty.prod Ty.str Ty.bool)) (Prod.snd t_682)] (1 : Nat))) (trigs_some_res r) (trigs_some_out r)) h (fun t_682 h => ?_) (fun s_688 x684 h684 K684 => ?_)
  ·
    exact W.retT 0 100000 h (by kernel_rfl)
  · unfold trigs_some_b0 at h684
    refine W.cond 2 100000 h684 (by kernel_rfl) (fun h684 => ?_) (fun h684 => ?_)
    ·
      refine W.needT 2 100000 h684 (by kernel_rfl) (fun h684 => ?_)
      refine W.bind h684 fun a_679 ha_679 h684 => ?_
      refine W.call 2 100000 (by kernel_rfl) (trigs_Set_1_con ha_679) (by kernel_rfl) ?_
      refine W.cond 2 100000 h684 (by kernel_rfl) (fun h684 => ?_) (fun h684 => ?_)
      ·
        refine W.needT 2 100000 h684 (by kernel_rfl) (fun h684 => ?_)
        cases h684; exact W.at 2 100000 [Co.own 5 (Ty.prod Ty.str (Ty.prod Ty.str Ty.bool))] [1, 5, 8, 9, 10] (by kernel_rfl) K684
      ·
        cases h684; exact W.at 2 100000 [Co.own 5 (Ty.prod Ty.str (Ty.prod Ty.str Ty.bool))] [1, 5, 8, 9, 10] (by kernel_rfl) K684
    ·
      cases h684; exact W.at 2 100000 [] [5] (by kernel_rfl) K684

theorem trigs_Set_2_con {y_709 : List UInt8} {y_710 : List UInt8} {y_711 : Bool} {o0_712 : List UInt8} {o0_713 : List UInt8} {o0_714 : Bool} {r : Bool × List UInt8 × List UInt8 × Bool} (h : trigs_Set_2 y_709 y_710 y_711 o0_712 o0_713 o0_714 = some r) : Con Go.Proofs.Tryz.prog 54 [AV.agg [AV.str y_709, AV.str y_710, AV.bool y_711], AV.ptr (0 : Nat) (0 : Nat)] [AO.box [AV.str o0_712, AV.str o0_713, AV.bool o0_714]] (trigs_Set_2_res r) (trigs_Set_2_out r) := by
  refine W.con (by kernel_rfl) ?_
  unfold trigs_Set_2 at h
  refine W.bind h fun a_715 ha_715 h => ?_
  refine W.call 0 100000 (by kernel_rfl) (trigs_compare_con ha_715) (by kernel_rfl) ?_
  exact W.retT 0 100000 h (by kernel_rfl)

theorem api_Interest__78_con {s_699 : List (List UInt8 × List UInt8 × Bool)} {o0_700 : List UInt8} {o0_701 : List UInt8} {o0_702 : Bool} {r : Int × List UInt8 × List UInt8 × Bool} (h : api_Interest__78 s_699 o0_700 o0_701 o0_702 = some r) : Con Go.Proofs.Tryz.prog 78 [AV.list (Ty.prod Ty.str (Ty.prod Ty.str Ty.bool)) s_699 Bool.false, AV.func (Go.Fn.func (54 : Nat)) [] [AV.ptr (0 : Nat) (0 : Nat)]] [AO.box [AV.str o0_700, AV.str o0_701, AV.bool o0_702]] (api_Interest__78_res r) (api_Interest__78_out r) := by
  refine W.con (by kernel_rfl) ?_
  unfold api_Interest__78 at h
  refine W.at 0 100000 [] [0, 1, 7, 8] (c' := (fun (s_738 : Int × List UInt8 × List UInt8 × Bool) => (Cfg.mk Mode.run (headTodo Go.Proofs.Tryz.prog 78 0) (St.mk [AV.list (Ty.prod Ty.str (Ty.prod Ty.str Ty.bool)) s_699 Bool.false, AV.func (Go.Fn.func (54 : Nat)) [] [AV.ptr (0 : Nat) (0 : Nat)], jj, jj, jj, jj, jj, AV.int IntKind.i64 (↑(List.length s_699) : Int), AV.int IntKind.i64 (Prod.fst s_738), jj, jj, jj, jj, jj, jj, jj, jj, jj, jj] [AO.box [AV.str (Prod.fst (Prod.snd s_738)), AV.str (Prod.fst (Prod.snd (Prod.snd s_738))), AV.bool (Prod.snd (Prod.snd (Prod.snd s_738)))]] (1 : Nat)))) ((0 : Int), o0_700, o0_701, o0_702)) (by kernel_rfl) ?_
  refine W.loop (fun (s_738 : Int × List UInt8 × List UInt8 × Bool) => (Cfg.mk Mode.run (headTodo Go.Proofs.Tryz.prog 78 0) (St.mk [AV.list (Ty.prod Ty.str (Ty.prod Ty.str Ty.bool)) s_699 Bool.false, AV.func (Go.Fn.func (54 : Nat)) [] [AV.ptr (0 : Nat) (0 : Nat)], jj, jj, jj, jj, jj, AV.int IntKind.i64 (↑(List.length s_699) : Int), AV.int IntKind.i64 (Prod.fst s_738), jj, jj, jj, jj, jj, jj, jj, jj, jj, jj] [AO.box [AV.str (Prod.fst (Prod.snd s_738)), AV.str (Prod.fst (Prod.snd (Prod.snd s_738))), AV.bool (Prod.snd (Prod.snd (Prod.snd s_738)))]] (1 : Nat)))) (fun t => (Sum.elim (fun t_726 => r = (Prod.fst t_726, Prod.fst (Prod.snd t_726), Prod.fst (Prod.snd (Prod.snd t_726)), Prod.snd (Prod.snd (Prod.snd t_726)))) (fun t_730 => Walk Go.Proofs.Tryz.prog 78 (Cfg.mk Mode.run ((headTodo Go.Proofs.Tryz.prog 78 0).drop 3) (St.mk [jj, jj, jj, jj, jj, jj, jj, jj, jj, jj, jj, jj, jj, jj, jj, jj, jj, jj, jj] [AO.box [AV.str (Prod.fst t_730), AV.str (Prod.fst (Prod.snd t_730)), AV.bool (Prod.snd (Prod.snd t_730))]] (1 : Nat))) (api_Interest__78_res r) (api_Interest__78_out r))) t) h (fun t h => ?_) (fun s_738 x732 h732 K732 => ?_)
  ·
    rcases t with t_726 | t_730
    · replace h := W.inl (h)
      refine W.elimL (?_)
      exact (Option.some.inj h).symm
    · replace h := W.inr (h)
      refine W.elimR (?_)
      exact W.retT 0 100000 h (by kernel_rfl)
  · unfold api_Interest__78_b0 at h732
    refine W.cond 2 100000 h732 (by kernel_rfl) (fun h732 => ?_) (fun h732 => ?_)
    ·
      refine W.needT 2 100000 h732 (by kernel_rfl) (fun h732 => ?_)
      refine W.bind h732 fun a_721 ha_721 h732 => ?_
      refine W.call 2 100000 (by kernel_rfl) (trigs_Set_2_con ha_721) (by kernel_rfl) ?_
      refine W.cond 2 100000 h732 (by kernel_rfl) (fun h732 => ?_) (fun h732 => ?_)
      ·
        cases h732; exact W.retK 2 100000 K732 (by kernel_rfl)
      ·
        cases h732; exact W.at 2 100000 [] [0, 1, 7, 8] (by kernel_rfl) K732
    ·
      cases h732; exact W.at 2 100000 [] [] (by kernel_rfl) K732

theorem api_Interest__con {s_695 : List (List UInt8 × List UInt8 × Bool)} {o0_696 : List UInt8} {o0_697 : List UInt8} {o0_698 : Bool} {r : Bool × List UInt8 × List UInt8 × Bool} (h : api_Interest_ s_695 o0_696 o0_697 o0_698 = some r) : Con Go.Proofs.Tryz.prog 55 [AV.list (Ty.prod Ty.str (Ty.prod Ty.str Ty.bool)) s_695 Bool.false, AV.func (Go.Fn.func (54 : Nat)) [] [AV.ptr (0 : Nat) (0 : Nat)]] [AO.box [AV.str o0_696, AV.str o0_697, AV.bool o0_698]] (api_Interest__res r) (api_Interest__out r) := by
  refine W.con (by kernel_rfl) ?_
  unfold api_Interest_ at h
  refine W.bind h fun a_739 ha_739 h => ?_
  refine W.call 0 100000 (by kernel_rfl) (api_Interest__78_con ha_739) (by kernel_rfl) ?_
  exact W.retT 0 100000 h (by kernel_rfl)

theorem trigs_Set_3_con {y_763 : List UInt8} {y_764 : List UInt8} {y_765 : Bool} {o0_766 : List UInt8} {o0_767 : List UInt8} {o0_768 : Bool} {r : Bool × List UInt8 × List UInt8 × Bool} (h : trigs_Set_3 y_763 y_764 y_765 o0_766 o0_767 o0_768 = some r) : Con Go.Proofs.Tryz.prog 57 [AV.agg [AV.str y_763, AV.str y_764, AV.bool y_765], AV.ptr (0 : Nat) (0 : Nat)] [AO.box [AV.str o0_766, AV.str o0_767, AV.bool o0_768]] (trigs_Set_3_res r) (trigs_Set_3_out r) := by
  refine W.con (by kernel_rfl) ?_
  unfold trigs_Set_3 at h
  refine W.bind h fun a_769 ha_769 h => ?_
  refine W.call 0 100000 (by kernel_rfl) (trigs_compare_con ha_769) (by kernel_rfl) ?_
  exact W.retT 0 100000 h (by kernel_rfl)

theorem api_Interest__v1_con {s_753 : List (List UInt8 × List UInt8 × Bool)} {o0_754 : List UInt8} {o0_755 : List UInt8} {o0_756 : Bool} {r : Int × List UInt8 × List UInt8 × Bool} (h : api_Interest__v1 s_753 o0_754 o0_755 o0_756 = some r) : Con Go.Proofs.Tryz.prog 78 [AV.list (Ty.prod Ty.str (Ty.prod Ty.str Ty.bool)) s_753 Bool.false, AV.func (Go.Fn.func (57 : Nat)) [] [AV.ptr (0 : Nat) (0 : Nat)]] [AO.box [AV.str o0_754, AV.str o0_755, AV.bool o0_756]] (api_Interest__v1_res r) (api_Interest__v1_out r) := by
  refine W.con (by kernel_rfl) ?_
  unfold api_Interest__v1 at h
  refine W.at 0 100000 [] [0, 1, 7, 8] (c' := (fun (s_792 : Int × List UInt8 × List UInt8 × Bool) => (Cfg.mk Mode.run (headTodo Go.Proofs.Tryz.prog 78 0) (St.mk [AV.list (Ty.prod Ty.str (Ty.prod Ty.str Ty.bool)) s_753 Bool.false, AV.func (Go.Fn.func (57 : Nat)) [] [AV.ptr (0 : Nat) (0 : Nat)], jj, jj, jj, jj, jj, AV.int IntKind.i64 (↑(List.length s_753) : Int), AV.int IntKind.i64 (Prod.fst s_792), jj, jj, jj, jj, jj, jj, jj, jj, jj, jj] [AO.box [AV.str (Prod.fst (Prod.snd s_792)), AV.str (Prod.fst (Prod.snd (Prod.snd s_792))), AV.bool (Prod.snd (Prod.snd (Prod.snd s_792)))]] (1 : Nat)))) ((0 : Int), o0_754, o0_755, o0_756)) (by kernel_rfl) ?_
  refine W.loop (fun (s_792 : Int × List UInt8 × List UInt8 × Bool) => (Cfg.mk Mode.run (headTodo Go.Proofs.Tryz.prog 78 0) (St.mk [AV.list (Ty.prod Ty.str (Ty.prod Ty.str Ty.bool)) s_753 Bool.false, AV.func (Go.Fn.func (57 : Nat)) [] [AV.ptr (0 : Nat) (0 : Nat)], jj, jj, jj, jj, jj, AV.int IntKind.i64 (↑(List.length s_753) : Int), AV.int IntKind.i64 (Prod.fst s_792), jj, jj, jj, jj, jj, jj, jj, jj, jj, jj] [AO.box [AV.str (Prod.fst (Prod.snd s_792)), AV.str (Prod.fst (Prod.snd (Prod.snd s_792))), AV.bool (Prod.snd (Prod.snd (Prod.snd s_792)))]] (1 : Nat)))) (fun t => (Sum.elim (fun t_780 => r = (Prod.fst t_780, Prod.fst (Prod.snd t_780), Prod.fst (Prod.snd (Prod.snd t_780)), Prod.snd (Prod.snd (Prod.snd t_780)))) (fun t_784 => Walk Go.Proofs.Tryz.prog 78 (Cfg.mk Mode.run ((headTodo Go.Proofs.Tryz.prog 78 0).drop 3) (St.mk [jj, jj, jj, jj, jj, jj, jj, jj, jj, jj, jj, jj, jj, jj, jj, jj, jj, jj, jj] [AO.box [AV.str (Prod.fst t_784), AV.str (Prod.fst (Prod.snd t_784)), AV.bool (Prod.snd (Prod.snd t_784))]] (1 : Nat))) (api_Interest__v1_res r) (api_Interest__v1_out r))) t) h (fun t h => ?_) (fun s_792 x786 h786 K786 => ?_)
  ·
    rcases t with t_780 | t_784
    · replace h := W.inl (h)
      refine W.elimL (?_)
      exact (Option.some.inj h).symm
    · replace h := W.inr (h)
      refine W.elimR (?_)
      exact W.retT 0 100000 h (by kernel_rfl)
  · unfold api_Interest__v1_b0 at h786
    refine W.cond 2 100000 h786 (by kernel_rfl) (fun h786 => ?_) (fun h786 => ?_)
    ·
      refine W.needT 2 100000 h786 (by kernel_rfl) (fun h786 => ?_)
      refine W.bind h786 fun a_775 ha_775 h786 => ?_
      refine W.call 2 100000 (by kernel_rfl) (trigs_Set_3_con ha_775) (by kernel_rfl) ?_
      refine W.cond 2 100000 h786 (by kernel_rfl) (fun h786 => ?_) (fun h786 => ?_)
      ·
        cases h786; exact W.retK 2 100000 K786 (by kernel_rfl)
      ·
        cases h786; exact W.at 2 100000 [] [0, 1, 7, 8] (by kernel_rfl) K786
    ·
      cases h786; exact W.at 2 100000 [] [] (by kernel_rfl) K786

theorem api_Interest__80_con {s_796 : List (List UInt8 × List UInt8 × Bool)} {r : List (List UInt8 × List UInt8 × Bool)} (h : api_Interest__80 s_796 = some r) : Con Go.Proofs.Tryz.prog 80 [AV.list (Ty.prod Ty.str (Ty.prod Ty.str Ty.bool)) s_796 Bool.false] [] (api_Interest__80_res r) (api_Interest__80_out r) := by
  refine W.con (by kernel_rfl) ?_
  unfold api_Interest__80 at h
  refine W.mayb 0 100000 h (by kernel_rfl) (fun h => ?_) (fun h => ?_)
  ·
    exact W.retT 0 100000 h (by kernel_rfl)
  ·
    refine W.needT 0 100000 h (by kernel_rfl) (fun h => ?_)
    exact W.retT 0 100000 h (by kernel_rfl)

theorem api_Interest__56_con {l_746 : List (List UInt8 × List UInt8 × Bool)} {x_747 : List UInt8} {x_748 : List UInt8} {x_749 : Bool} {o0_750 : List UInt8} {o0_751 : List UInt8} {o0_752 : Bool} {r : List UInt8 × List UInt8 × Bool × List (List UInt8 × List UInt8 × Bool)} (h : api_Interest__56 l_746 x_747 x_748 x_749 o0_750 o0_751 o0_752 = some r) : Con Go.Proofs.Tryz.prog 56 [AV.list (Ty.prod Ty.str (Ty.prod Ty.str Ty.bool)) l_746 Bool.false, AV.agg [AV.str x_747, AV.str x_748, AV.bool x_749], AV.func (Go.Fn.func (57 : Nat)) [] [AV.ptr (0 : Nat) (0 : Nat)]] [AO.box [AV.str o0_750, AV.str o0_751, AV.bool o0_752]] (api_Interest__56_res r) (api_Interest__56_out r) := by
  refine W.con (by kernel_rfl) ?_
  unfold api_Interest__56 at h
  refine W.bind h fun a_793 ha_793 h => ?_
  refine W.call 0 100000 (by kernel_rfl) (api_Interest__v1_con ha_793) (by kernel_rfl) ?_
  refine W.join (fun t_795 => Walk Go.Proofs.Tryz.prog 56 (Cfg.mk Mode.run (seqTodo Go.Proofs.Tryz.prog 56 2) (St.mk [AV.list (Ty.prod Ty.str (Ty.prod Ty.str Ty.bool)) l_746 Bool.false, jj, jj, jj, AV.ptr (1 : Nat) (0 : Nat), jj, jj, AV.int IntKind.i64 t_795, jj, jj, jj, jj, jj, jj, jj, jj, jj, jj, jj, jj, jj] [AO.box [AV.str (Prod.fst (Prod.snd a_793)), AV.str (Prod.fst (Prod.snd (Prod.snd a_793))), AV.bool (Prod.snd (Prod.snd (Prod.snd a_793)))], AO.box [AV.str x_747, AV.str x_748, AV.bool x_749]] (1 : Nat))) (api_Interest__56_res r) (api_Interest__56_out r)) h (fun t_795 h => ?_) (fun t802 h802 K802 => ?_)
  ·
    refine W.bind h fun a_799 ha_799 h => ?_
    refine W.call 0 100000 (by kernel_rfl) (api_Interest__80_con ha_799) (by kernel_rfl) ?_
    refine W.bind h fun a_800 ha_800 h => ?_
    refine W.call 0 100000 (by kernel_rfl) (api_Interest__79_con ha_800) (by kernel_rfl) ?_
    exact W.retT 0 100000 h (by kernel_rfl)
  · refine W.next 0 3 (by kernel_rfl) ?_
    refine W.cond 1 100000 h802 (by kernel_rfl) (fun h802 => ?_) (fun h802 => ?_)
    ·
      cases h802; exact W.at 1 100000 [] [0, 4, 7] (by kernel_rfl) K802
    ·
      cases h802; exact W.at 1 100000 [] [0, 4, 7] (by kernel_rfl) K802

theorem trigs_Set_con {l_657 : List (List UInt8 × List UInt8 × Bool)} {pkg_658 : List UInt8} {own_659 : List (List UInt8 × List UInt8 × Bool)} {r : List (List UInt8 × List UInt8 × Bool)} (h : trigs_Set l_657 pkg_658 own_659 = some r) : Con Go.Proofs.Tryz.prog 24 [AV.list (Ty.prod Ty.str (Ty.prod Ty.str Ty.bool)) l_657 Bool.false, AV.str pkg_658, AV.list (Ty.prod Ty.str (Ty.prod Ty.str Ty.bool)) own_659 Bool.false] [] (trigs_Set_res r) (trigs_Set_out r) := by
  refine W.con (by kernel_rfl) ?_
  unfold trigs_Set at h
  refine W.bind h fun a_689 ha_689 h => ?_
  refine W.call 0 100000 (by kernel_rfl) (trigs_some_con ha_689) (by kernel_rfl) ?_
  refine W.at 0 100000 [] [4, 7, 14, 15, 16] (c' := (fun (s_814 : Int × List (List UInt8 × List UInt8 × Bool)) => (Cfg.mk Mode.run (headTodo Go.Proofs.Tryz.prog 24 0) (St.mk [jj, jj, jj, jj, AV.ptr (0 : Nat) (0 : Nat), jj, jj, AV.view (1 : Nat) (0 : Nat) Option.none, jj, jj, jj, jj, jj, jj, AV.list (Ty.prod Ty.str (Ty.prod Ty.str Ty.bool)) own_659 Bool.false, AV.int IntKind.i64 (↑(List.length own_659) : Int), AV.int IntKind.i64 (Prod.fst s_814), jj, jj, jj, jj, jj, jj, jj, jj, jj, jj, jj, jj, jj, jj, jj, jj] [AO.box [AV.str (Prod.fst a_689)], AO.row (Ty.prod Ty.str (Ty.prod Ty.str Ty.bool)) (Prod.snd s_814)] (0 : Nat)))) ((0 : Int), Prod.snd a_689)) (by kernel_rfl) ?_
  refine W.loop (fun (s_814 : Int × List (List UInt8 × List UInt8 × Bool)) => (Cfg.mk Mode.run (headTodo Go.Proofs.Tryz.prog 24 0) (St.mk [jj, jj, jj, jj, AV.ptr (0 : Nat) (0 : Nat), jj, jj, AV.view (1 : Nat) (0 : Nat) Option.none, jj, jj, jj, jj, jj, jj, AV.list (Ty.prod Ty.str (Ty.prod Ty.str Ty.bool)) own_659 Bool.false, AV.int IntKind.i64 (↑(List.length own_659) : Int), AV.int IntKind.i64 (Prod.fst s_814), jj, jj, jj, jj, jj, jj, jj, jj, jj, jj, jj, jj, jj, jj, jj, jj] [AO.box [AV.str (Prod.fst a_689)], AO.row (Ty.prod Ty.str (Ty.prod Ty.str Ty.bool)) (Prod.snd s_814)] (0 : Nat)))) (fun t_809 => Walk Go.Proofs.Tryz.prog 24 (Cfg.mk Mode.run ((headTodo Go.Proofs.Tryz.prog 24 0).drop 3) (St.mk [jj, jj, jj, jj, jj, jj, jj, AV.view (0 : Nat) (0 : Nat) Option.none, jj, jj, jj, jj, jj, jj, jj, jj, jj, jj, jj, jj, jj, jj, jj, jj, jj, jj, jj, jj, jj, jj, jj, jj, jj] [AO.row (Ty.prod Ty.str (Ty.prod Ty.str Ty.bool)) t_809] (0 : Nat))) (trigs_Set_res r) (trigs_Set_out r)) h (fun t_809 h => ?_) (fun s_814 x811 h811 K811 => ?_)
  ·
    exact W.retT 0 100000 h (by kernel_rfl)
  · unfold trigs_Set_b0 at h811
    refine W.cond 2 100000 h811 (by kernel_rfl) (fun h811 => ?_) (fun h811 => ?_)
    ·
      refine W.needT 2 100000 h811 (by kernel_rfl) (fun h811 => ?_)
      refine W.bind h811 fun a_745 ha_745 h811 => ?_
      refine W.call 2 100000 (by kernel_rfl) (api_Interest__con ha_745) (by kernel_rfl) ?_
      refine W.cond 2 100000 h811 (by kernel_rfl) (fun h811 => ?_) (fun h811 => ?_)
      ·
        refine W.bind h811 fun a_807 ha_807 h811 => ?_
        refine W.call 2 100000 (by kernel_rfl) (api_Interest__56_con ha_807) (by kernel_rfl) ?_
        cases h811; exact W.at 2 100000 [] [4, 7, 14, 15, 16] (by kernel_rfl) K811
      ·
        cases h811; exact W.at 2 100000 [] [4, 7, 14, 15, 16] (by kernel_rfl) K811
    ·
      cases h811; exact W.at 2 100000 [] [7] (by kernel_rfl) K811

theorem cellarerref12_For_con {l_836 : List (List UInt8 × List UInt8 × Bool)} {trigger_837 : List UInt8} {r : List (List UInt8 × List UInt8 × Bool)} (h : cellarerref12_For l_836 trigger_837 = some r) : Con Go.Proofs.Tryz.prog 29 [AV.list (Ty.prod Ty.str (Ty.prod Ty.str Ty.bool)) l_836 Bool.false, AV.str trigger_837] [] (cellarerref12_For_res r) (cellarerref12_For_out r) := by
  refine W.con (by kernel_rfl) ?_
  unfold cellarerref12_For at h
  refine W.at 0 100000 [Co.own 5 (Ty.prod Ty.str (Ty.prod Ty.str Ty.bool))] [0, 1, 5, 6] (c' := (fun (s_851 : Int × List (List UInt8 × List UInt8 × Bool)) => (Cfg.mk Mode.run (headTodo Go.Proofs.Tryz.prog 29 0) (St.mk [AV.list (Ty.prod Ty.str (Ty.prod Ty.str Ty.bool)) l_836 Bool.false, AV.str trigger_837, jj, jj, jj, AV.view (0 : Nat) (0 : Nat) Option.none, AV.int IntKind.i64 (Prod.fst s_851), jj, jj, jj, jj, jj, jj, jj, jj, jj, jj, jj, jj, jj, jj, jj, jj, jj, jj, jj, jj, jj] [AO.row (Ty.prod Ty.str (Ty.prod Ty.str Ty.bool)) (Prod.snd s_851)] (0 : Nat)))) ((0 : Int), [])) (by kernel_rfl) ?_
  refine W.loop (fun (s_851 : Int × List (List UInt8 × List UInt8 × Bool)) => (Cfg.mk Mode.run (headTodo Go.Proofs.Tryz.prog 29 0) (St.mk [AV.list (Ty.prod Ty.str (Ty.prod Ty.str Ty.bool)) l_836 Bool.false, AV.str trigger_837, jj, jj, jj, AV.view (0 : Nat) (0 : Nat) Option.none, AV.int IntKind.i64 (Prod.fst s_851), jj, jj, jj, jj, jj, jj, jj, jj, jj, jj, jj, jj, jj, jj, jj, jj, jj, jj, jj, jj, jj] [AO.row (Ty.prod Ty.str (Ty.prod Ty.str Ty.bool)) (Prod.snd s_851)] (0 : Nat)))) (fun t_846 => Walk Go.Proofs.Tryz.prog 29 (Cfg.mk Mode.run ((headTodo Go.Proofs.Tryz.prog 29 0).drop 3) (St.mk [jj, jj, jj, jj, jj, AV.view (0 : Nat) (0 : Nat) Option.none, jj, jj, jj, jj, jj, jj, jj, jj, jj, jj, jj, jj, jj, jj, jj, jj, jj, jj, jj, jj, jj, jj] [AO.row (Ty.prod Ty.str (Ty.prod Ty.str Ty.bool)) t_846] (0 : Nat))) (cellarerref12_For_res r) (cellarerref12_For_out r)) h (fun t_846 h => ?_) (fun s_851 x848 h848 K848 => ?_)
  ·
    exact W.retT 0 100000 h (by kernel_rfl)
  · unfold cellarerref12_For_b0 at h848
    refine W.cond 2 100000 h848 (by kernel_rfl) (fun h848 => ?_) (fun h848 => ?_)
    ·
      refine W.needT 2 100000 h848 (by kernel_rfl) (fun h848 => ?_)
      refine W.cond 2 100000 h848 (by kernel_rfl) (fun h848 => ?_) (fun h848 => ?_)
      ·
        refine W.needT 2 100000 h848 (by kernel_rfl) (fun h848 => ?_)
        refine W.needT 2 100000 h848 (by kernel_rfl) (fun h848 => ?_)
        cases h848; exact W.at 2 100000 [Co.own 5 (Ty.prod Ty.str (Ty.prod Ty.str Ty.bool))] [0, 1, 5, 6] (by kernel_rfl) K848
      ·
        cases h848; exact W.at 2 100000 [Co.own 5 (Ty.prod Ty.str (Ty.prod Ty.str Ty.bool))] [0, 1, 5, 6] (by kernel_rfl) K848
    ·
      cases h848; exact W.at 2 100000 [] [5] (by kernel_rfl) K848

theorem cellarerref12_put_con {l_853 : List (List UInt8 × List UInt8 × Bool)} {x_854 : List UInt8} {x_855 : List UInt8} {x_856 : Bool} {r : List (List UInt8 × List UInt8 × Bool)} (h : cellarerref12_put l_853 x_854 x_855 x_856 = some r) : Con Go.Proofs.Tryz.prog 58 [AV.list (Ty.prod Ty.str (Ty.prod Ty.str Ty.bool)) l_853 Bool.false, AV.agg [AV.str x_854, AV.str x_855, AV.bool x_856]] [] (cellarerref12_put_res r) (cellarerref12_put_out r) := by
  refine W.con (by kernel_rfl) ?_
  unfold cellarerref12_put at h
  refine W.at 0 100000 [Co.own 5 (Ty.prod Ty.str (Ty.prod Ty.str Ty.bool))] [0, 3, 5, 6, 7] (c' := (fun (s_886 : Bool × Int × List (List UInt8 × List UInt8 × Bool)) => (Cfg.mk Mode.run (headTodo Go.Proofs.Tryz.prog 58 0) (St.mk [AV.list (Ty.prod Ty.str (Ty.prod Ty.str Ty.bool)) l_853 Bool.false, jj, jj, AV.ptr (0 : Nat) (0 : Nat), jj, AV.view (1 : Nat) (0 : Nat) Option.none, AV.bool (Prod.fst s_886), AV.int IntKind.i64 (Prod.fst (Prod.snd s_886)), jj, jj, jj, jj, jj, jj, jj, jj, jj, jj, jj, jj, jj, jj, jj, jj, jj, jj, jj, jj, jj, jj, jj, jj, jj, jj, jj, jj, jj, jj, jj, jj, jj, jj] [AO.box [AV.str x_854, AV.str x_855, AV.bool x_856], AO.row (Ty.prod Ty.str (Ty.prod Ty.str Ty.bool)) (Prod.snd (Prod.snd s_886))] (0 : Nat)))) (Bool.false, (0 : Int), [])) (by kernel_rfl) ?_
  refine W.loop (fun (s_886 : Bool × Int × List (List UInt8 × List UInt8 × Bool)) => (Cfg.mk Mode.run (headTodo Go.Proofs.Tryz.prog 58 0) (St.mk [AV.list (Ty.prod Ty.str (Ty.prod Ty.str Ty.bool)) l_853 Bool.false, jj, jj, AV.ptr (0 : Nat) (0 : Nat), jj, AV.view (1 : Nat) (0 : Nat) Option.none, AV.bool (Prod.fst s_886), AV.int IntKind.i64 (Prod.fst (Prod.snd s_886)), jj, jj, jj, jj, jj, jj, jj, jj, jj, jj, jj, jj, jj, jj, jj, jj, jj, jj, jj, jj, jj, jj, jj, jj, jj, jj, jj, jj, jj, jj, jj, jj, jj, jj] [AO.box [AV.str x_854, AV.str x_855, AV.bool x_856], AO.row (Ty.prod Ty.str (Ty.prod Ty.str Ty.bool)) (Prod.snd (Prod.snd s_886))] (0 : Nat)))) (fun t_881 => Walk Go.Proofs.Tryz.prog 58 (Cfg.mk Mode.run ((headTodo Go.Proofs.Tryz.prog 58 0).drop 3) (St.mk [jj, jj, jj, AV.ptr (0 : Nat) (0 : Nat), jj, AV.view (1 : Nat) (0 : Nat) Option.none, AV.bool (Prod.fst t_881), jj, jj, jj, jj, jj, jj, jj, jj, jj, jj, jj, jj, jj, jj, jj, jj, jj, jj, jj, jj, jj, jj, jj, jj, jj, jj, jj, jj, jj, jj, jj, jj, jj, jj, jj] [AO.box [AV.str x_854, AV.str x_855, AV.bool x_856], AO.row (Ty.prod Ty.str (Ty.prod Ty.str Ty.bool)) (Prod.snd t_881)] (0 : Nat))) (cellarerref12_put_res r) (cellarerref12_put_out r)) h (fun t_881 h => ?_) (fun s_886 x883 h883 K883 => ?_)
  ·
    refine W.cond 0 100000 h (by kernel_rfl) (fun h => ?_) (fun h => ?_)
    ·
      refine W.needT 0 100000 h (by kernel_rfl) (fun h => ?_)
      exact W.retT 0 100000 h (by kernel_rfl)
    ·
      exact W.retT 0 100000 h (by kernel_rfl)
  · unfold cellarerref12_put_b0 at h883
    refine W.cond 2 100000 h883 (by kernel_rfl) (fun h883 => ?_) (fun h883 => ?_)
    ·
      refine W.join (fun t_877 => Walk Go.Proofs.Tryz.prog 58 (Cfg.mk Mode.run (seqTodo Go.Proofs.Tryz.prog 58 8) (St.mk [AV.list (Ty.prod Ty.str (Ty.prod Ty.str Ty.bool)) l_853 Bool.false, jj, jj, AV.ptr (0 : Nat) (0 : Nat), jj, AV.view (1 : Nat) (0 : Nat) Option.none, AV.bool (Prod.fst t_877), AV.int IntKind.i64 (Prod.fst (Prod.snd s_886)), jj, jj, jj, jj, jj, jj, jj, jj, jj, jj, jj, jj, jj, jj, jj, jj, jj, jj, jj, jj, jj, jj, jj, jj, jj, jj, jj, jj, jj, jj, jj, jj, jj, jj] [AO.box [AV.str x_854, AV.str x_855, AV.bool x_856], AO.row (Ty.prod Ty.str (Ty.prod Ty.str Ty.bool)) (Prod.snd t_877)] (0 : Nat))) (cellarerref12_put_res r) (cellarerref12_put_out r)) h883 (fun t_877 h883 => ?_) (fun t879 h879 K879 => ?_)
      ·
        refine W.needT 2 100000 h883 (by kernel_rfl) (fun h883 => ?_)
        refine W.needT 2 100000 h883 (by kernel_rfl) (fun h883 => ?_)
        cases h883; exact W.at 2 100000 [Co.own 5 (Ty.prod Ty.str (Ty.prod Ty.str Ty.bool))] [0, 3, 5, 6, 7] (by kernel_rfl) K883
      · refine W.next 2 4 (by kernel_rfl) ?_
        refine W.cond 6 100000 h879 (by kernel_rfl) (fun h879 => ?_) (fun h879 => ?_)
        ·
          refine W.yes 6 100000 (by kernel_rfl) ?_
          refine W.yes 6 100000 (by kernel_rfl) ?_
          refine W.yes 6 100000 (by kernel_rfl) ?_
          refine W.needT 6 100000 h879 (by kernel_rfl) (fun h879 => ?_)
          refine W.yes 6 100000 (by kernel_rfl) ?_
          refine W.yes 6 100000 (by kernel_rfl) ?_
          refine W.bind h879 fun a_874 ha_874 h879 => ?_
          refine W.call 6 100000 (by kernel_rfl) (cellarerref12_less_con ha_874) (by kernel_rfl) ?_
          refine W.yes 6 100000 (by kernel_rfl) ?_
          refine W.cond 6 100000 h879 (by kernel_rfl) (fun h879 => ?_) (fun h879 => ?_)
          ·
            refine W.needT 6 100000 h879 (by kernel_rfl) (fun h879 => ?_)
            cases h879; exact W.at 6 100000 [] [0, 3, 5, 6, 7] (by kernel_rfl) K879
          ·
            cases h879; exact W.at 6 100000 [] [0, 3, 5, 6, 7] (by kernel_rfl) K879
        ·
          refine W.no 6 100000 (by kernel_rfl) ?_
          refine W.no 6 100000 (by kernel_rfl) ?_
          refine W.no 6 100000 (by kernel_rfl) ?_
          refine W.no 6 100000 (by kernel_rfl) ?_
          refine W.no 6 100000 (by kernel_rfl) ?_
          refine W.no 6 100000 (by kernel_rfl) ?_
          refine W.no 6 100000 (by kernel_rfl) ?_
          cases h879; exact W.at 6 100000 [] [0, 3, 5, 6, 7] (by kernel_rfl) K879
    ·
      cases h883; exact W.at 2 100000 [] [3, 5, 6] (by kernel_rfl) K883

theorem cellarerref12_Set_con {l_818 : List (List UInt8 × List UInt8 × Bool)} {pkg_819 : List UInt8} {own_820 : List (List UInt8 × List UInt8 × Bool)} {r : List (List UInt8 × List UInt8 × Bool)} (h : cellarerref12_Set l_818 pkg_819 own_820 = some r) : Con Go.Proofs.Tryz.prog 25 [AV.list (Ty.prod Ty.str (Ty.prod Ty.str Ty.bool)) l_818 Bool.false, AV.str pkg_819, AV.list (Ty.prod Ty.str (Ty.prod Ty.str Ty.bool)) own_820 Bool.false] [] (cellarerref12_Set_res r) (cellarerref12_Set_out r) := by
  refine W.con (by kernel_rfl) ?_
  unfold cellarerref12_Set at h
  refine W.at 0 100000 [Co.own 7 (Ty.prod Ty.str (Ty.prod Ty.str Ty.bool))] [0, 1, 2, 7, 8] (c' := (fun (s_896 : Int × List (List UInt8 × List UInt8 × Bool)) => (Cfg.mk Mode.run (headTodo Go.Proofs.Tryz.prog 25 0) (St.mk [AV.list (Ty.prod Ty.str (Ty.prod Ty.str Ty.bool)) l_818 Bool.false, AV.str pkg_819, AV.list (Ty.prod Ty.str (Ty.prod Ty.str Ty.bool)) own_820 Bool.false, jj, jj, jj, jj, AV.view (0 : Nat) (0 : Nat) Option.none, AV.int IntKind.i64 (Prod.fst s_896), jj, jj, jj, jj, jj, jj, jj, jj, jj, jj, jj, jj, jj, jj, jj, jj, jj, jj, jj, jj, jj, jj, jj, jj, jj, jj, jj, jj, jj, jj, jj, jj, jj, jj, jj, jj, jj, jj, jj, jj, jj, jj, jj, jj, jj, jj, jj, jj, jj, jj, jj, jj, jj] [AO.row (Ty.prod Ty.str (Ty.prod Ty.str Ty.bool)) (Prod.snd s_896)] (0 : Nat)))) ((0 : Int), [])) (by kernel_rfl) ?_
  refine W.loop (fun (s_896 : Int × List (List UInt8 × List UInt8 × Bool)) => (Cfg.mk Mode.run (headTodo Go.Proofs.Tryz.prog 25 0) (St.mk [AV.list (Ty.prod Ty.str (Ty.prod Ty.str Ty.bool)) l_818 Bool.false, AV.str pkg_819, AV.list (Ty.prod Ty.str (Ty.prod Ty.str Ty.bool)) own_820 Bool.false, jj, jj, jj, jj, AV.view (0 : Nat) (0 : Nat) Option.none, AV.int IntKind.i64 (Prod.fst s_896), jj, jj, jj, jj, jj, jj, jj, jj, jj, jj, jj, jj, jj, jj, jj, jj, jj, jj, jj, jj, jj, jj, jj, jj, jj, jj, jj, jj, jj, jj, jj, jj, jj, jj, jj, jj, jj, jj, jj, jj, jj, jj, jj, jj, jj, jj, jj, jj, jj, jj, jj, jj, jj] [AO.row (Ty.prod Ty.str (Ty.prod Ty.str Ty.bool)) (Prod.snd s_896)] (0 : Nat)))) (fun t_831 => Walk Go.Proofs.Tryz.prog 25 (Cfg.mk Mode.run ((headTodo Go.Proofs.Tryz.prog 25 0).drop 3) (St.mk [jj, AV.str pkg_819, AV.list (Ty.prod Ty.str (Ty.prod Ty.str Ty.bool)) own_820 Bool.false, jj, jj, jj, jj, AV.view (0 : Nat) (0 : Nat) Option.none, jj, jj, jj, jj, jj, jj, jj, jj, jj, jj, jj, jj, jj, jj, jj, jj, jj, jj, jj, jj, jj, jj, jj, jj, jj, jj, jj, jj, jj, jj, jj, jj, jj, jj, jj, jj, jj, jj, jj, jj, jj, jj, jj, jj, jj, jj, jj, jj, jj, jj, jj, jj, jj, jj] [AO.row (Ty.prod Ty.str (Ty.prod Ty.str Ty.bool)) t_831] (0 : Nat))) (cellarerref12_Set_res r) (cellarerref12_Set_out r)) h (fun t_831 h => ?_) (fun s_896 x892 h892 K892 => ?_)
  ·
    refine W.at 0 100000 [] [1, 2, 7, 9] (c' := (fun (s_897 : Int × List (List UInt8 × List UInt8 × Bool)) => (Cfg.mk Mode.run (headTodo Go.Proofs.Tryz.prog 25 1) (St.mk [jj, AV.str pkg_819, AV.list (Ty.prod Ty.str (Ty.prod Ty.str Ty.bool)) own_820 Bool.false, jj, jj, jj, jj, AV.view (0 : Nat) (0 : Nat) Option.none, jj, AV.int IntKind.i64 (Prod.fst s_897), jj, jj, jj, jj, jj, jj, jj, jj, jj, jj, jj, jj, jj, jj, jj, jj, jj, jj, jj, jj, jj, jj, jj, jj, jj, jj, jj, jj, jj, jj, jj, jj, jj, jj, jj, jj, jj, jj, jj, jj, jj, jj, jj, jj, jj, jj, jj, jj, jj, jj, jj, jj] [AO.row (Ty.prod Ty.str (Ty.prod Ty.str Ty.bool)) (Prod.snd s_897)] (0 : Nat)))) ((0 : Int), t_831)) (by kernel_rfl) ?_
    refine W.loop (fun (s_897 : Int × List (List UInt8 × List UInt8 × Bool)) => (Cfg.mk Mode.run (headTodo Go.Proofs.Tryz.prog 25 1) (St.mk [jj, AV.str pkg_819, AV.list (Ty.prod Ty.str (Ty.prod Ty.str Ty.bool)) own_820 Bool.false, jj, jj, jj, jj, AV.view (0 : Nat) (0 : Nat) Option.none, jj, AV.int IntKind.i64 (Prod.fst s_897), jj, jj, jj, jj, jj, jj, jj, jj, jj, jj, jj, jj, jj, jj, jj, jj, jj, jj, jj, jj, jj, jj, jj, jj, jj, jj, jj, jj, jj, jj, jj, jj, jj, jj, jj, jj, jj, jj, jj, jj, jj, jj, jj, jj, jj, jj, jj, jj, jj, jj, jj, jj] [AO.row (Ty.prod Ty.str (Ty.prod Ty.str Ty.bool)) (Prod.snd s_897)] (0 : Nat)))) (fun t_889 => Walk Go.Proofs.Tryz.prog 25 (Cfg.mk Mode.run ((headTodo Go.Proofs.Tryz.prog 25 1).drop 3) (St.mk [jj, jj, jj, jj, jj, jj, jj, AV.view (0 : Nat) (0 : Nat) Option.none, jj, jj, jj, jj, jj, jj, jj, jj, jj, jj, jj, jj, jj, jj, jj, jj, jj, jj, jj, jj, jj, jj, jj, jj, jj, jj, jj, jj, jj, jj, jj, jj, jj, jj, jj, jj, jj, jj, jj, jj, jj, jj, jj, jj, jj, jj, jj, jj, jj, jj, jj, jj, jj, jj] [AO.row (Ty.prod Ty.str (Ty.prod Ty.str Ty.bool)) t_889] (0 : Nat))) (cellarerref12_Set_res r) (cellarerref12_Set_out r)) h (fun t_889 h => ?_) (fun s_897 x891 h891 K891 => ?_)
    ·
      exact W.retT 0 100000 h (by kernel_rfl)
    · unfold cellarerref12_Set_b1 at h891
      refine W.cond 2 100000 h891 (by kernel_rfl) (fun h891 => ?_) (fun h891 => ?_)
      ·
        refine W.needT 2 100000 h891 (by kernel_rfl) (fun h891 => ?_)
        refine W.needT 2 100000 h891 (by kernel_rfl) (fun h891 => ?_)
        refine W.bind h891 fun a_852 ha_852 h891 => ?_
        refine W.call 2 100000 (by kernel_rfl) (cellarerref12_For_con ha_852) (by kernel_rfl) ?_
        refine W.cond 2 100000 h891 (by kernel_rfl) (fun h891 => ?_) (fun h891 => ?_)
        ·
          refine W.needT 2 100000 h891 (by kernel_rfl) (fun h891 => ?_)
          refine W.needT 2 100000 h891 (by kernel_rfl) (fun h891 => ?_)
          refine W.bind h891 fun a_887 ha_887 h891 => ?_
          refine W.call 2 100000 (by kernel_rfl) (cellarerref12_put_con ha_887) (by kernel_rfl) ?_
          cases h891; exact W.at 2 100000 [] [1, 2, 7, 9] (by kernel_rfl) K891
        ·
          cases h891; exact W.at 2 100000 [] [1, 2, 7, 9] (by kernel_rfl) K891
      ·
        cases h891; exact W.at 2 100000 [] [7] (by kernel_rfl) K891
  · unfold cellarerref12_Set_b0 at h892
    refine W.cond 2 100000 h892 (by kernel_rfl) (fun h892 => ?_) (fun h892 => ?_)
    ·
      refine W.needT 2 100000 h892 (by kernel_rfl) (fun h892 => ?_)
      refine W.cond 2 100000 h892 (by kernel_rfl) (fun h892 => ?_) (fun h892 => ?_)
      ·
        refine W.needT 2 100000 h892 (by kernel_rfl) (fun h892 => ?_)
        refine W.needT 2 100000 h892 (by kernel_rfl) (fun h892 => ?_)
        cases h892; exact W.at 2 100000 [Co.own 7 (Ty.prod Ty.str (Ty.prod Ty.str Ty.bool))] [0, 1, 2, 7, 8] (by kernel_rfl) K892
      ·
        cases h892; exact W.at 2 100000 [Co.own 7 (Ty.prod Ty.str (Ty.prod Ty.str Ty.bool))] [0, 1, 2, 7, 8] (by kernel_rfl) K892
    ·
      cases h892; exact W.at 2 100000 [] [1, 2, 7] (by kernel_rfl) K892

theorem trigs_Of_1_con {x_908 : List UInt8} {x_909 : List UInt8} {x_910 : Bool} {o0_911 : List UInt8} {r : Bool × List UInt8} (h : trigs_Of_1 x_908 x_909 x_910 o0_911 = some r) : Con Go.Proofs.Tryz.prog 59 [AV.agg [AV.str x_908, AV.str x_909, AV.bool x_910], AV.ptr (0 : Nat) (0 : Nat)] [AO.box [AV.str o0_911]] (trigs_Of_1_res r) (trigs_Of_1_out r) := by
  refine W.con (by kernel_rfl) ?_
  unfold trigs_Of_1 at h
  exact W.retT 0 100000 h (by kernel_rfl)

theorem trigs_some_v1_con {l_902 : List (List UInt8 × List UInt8 × Bool)} {o0_903 : List UInt8} {r : List UInt8 × List (List UInt8 × List UInt8 × Bool)} (h : trigs_some_v1 l_902 o0_903 = some r) : Con Go.Proofs.Tryz.prog 52 [AV.list (Ty.prod Ty.str (Ty.prod Ty.str Ty.bool)) l_902 Bool.false, AV.func (Go.Fn.func (59 : Nat)) [] [AV.ptr (0 : Nat) (0 : Nat)]] [AO.box [AV.str o0_903]] (trigs_some_v1_res r) (trigs_some_v1_out r) := by
  refine W.con (by kernel_rfl) ?_
  unfold trigs_some_v1 at h
  refine W.at 0 100000 [Co.own 5 (Ty.prod Ty.str (Ty.prod Ty.str Ty.bool))] [1, 5, 8, 9, 10] (c' := (fun (s_930 : Int × List UInt8 × List (List UInt8 × List UInt8 × Bool)) => (Cfg.mk Mode.run (headTodo Go.Proofs.Tryz.prog 52 0) (St.mk [jj, AV.func (Go.Fn.func (59 : Nat)) [] [AV.ptr (0 : Nat) (0 : Nat)], jj, jj, jj, AV.view (1 : Nat) (0 : Nat) Option.none, jj, jj, AV.list (Ty.prod Ty.str (Ty.prod Ty.str Ty.bool)) l_902 Bool.false, AV.int IntKind.i64 (↑(List.length l_902) : Int), AV.int IntKind.i64 (Prod.fst s_930), jj, jj, jj, jj, jj, jj, jj, jj, jj, jj, jj, jj] [AO.box [AV.str (Prod.fst (Prod.snd s_930))], AO.row (Ty.prod Ty.str (Ty.prod Ty.str Ty.bool)) (Prod.snd (Prod.snd s_930))] (1 : Nat)))) ((0 : Int), o0_903, [])) (by kernel_rfl) ?_
  refine W.loop (fun (s_930 : Int × List UInt8 × List (List UInt8 × List UInt8 × Bool)) => (Cfg.mk Mode.run (headTodo Go.Proofs.Tryz.prog 52 0) (St.mk [jj, AV.func (Go.Fn.func (59 : Nat)) [] [AV.ptr (0 : Nat) (0 : Nat)], jj, jj, jj, AV.view (1 : Nat) (0 : Nat) Option.none, jj, jj, AV.list (Ty.prod Ty.str (Ty.prod Ty.str Ty.bool)) l_902 Bool.false, AV.int IntKind.i64 (↑(List.length l_902) : Int), AV.int IntKind.i64 (Prod.fst s_930), jj, jj, jj, jj, jj, jj, jj, jj, jj, jj, jj, jj] [AO.box [AV.str (Prod.fst (Prod.snd s_930))], AO.row (Ty.prod Ty.str (Ty.prod Ty.str Ty.bool)) (Prod.snd (Prod.snd s_930))] (1 : Nat)))) (fun t_924 => Walk Go.Proofs.Tryz.prog 52 (Cfg.mk Mode.run ((headTodo Go.Proofs.Tryz.prog 52 0).drop 3) (St.mk [jj, jj, jj, jj, jj, AV.view (1 : Nat) (0 : Nat) Option.none, jj, jj, jj, jj, jj, jj, jj, jj, jj, jj, jj, jj, jj, jj, jj, jj, jj] [AO.box [AV.str (Prod.fst t_924)], AO.row (Ty.prod Ty.str (Ty.prod Ty.str Ty.bool)) (Prod.snd t_924)] (1 : Nat))) (trigs_some_v1_res r) (trigs_some_v1_out r)) h (fun t_924 h => ?_) (fun s_930 x926 h926 K926 => ?_)
  ·
    exact W.retT 0 100000 h (by kernel_rfl)
  · unfold trigs_some_v1_b0 at h926
    refine W.cond 2 100000 h926 (by kernel_rfl) (fun h926 => ?_) (fun h926 => ?_)
    ·
      refine W.needT 2 100000 h926 (by kernel_rfl) (fun h926 => ?_)
      refine W.bind h926 fun a_921 ha_921 h926 => ?_
      refine W.call 2 100000 (by kernel_rfl) (trigs_Of_1_con ha_921) (by kernel_rfl) ?_
      refine W.cond 2 100000 h926 (by kernel_rfl) (fun h926 => ?_) (fun h926 => ?_)
      ·
        refine W.needT 2 100000 h926 (by kernel_rfl) (fun h926 => ?_)
        cases h926; exact W.at 2 100000 [Co.own 5 (Ty.prod Ty.str (Ty.prod Ty.str Ty.bool))] [1, 5, 8, 9, 10] (by kernel_rfl) K926
      ·
        cases h926; exact W.at 2 100000 [Co.own 5 (Ty.prod Ty.str (Ty.prod Ty.str Ty.bool))] [1, 5, 8, 9, 10] (by kernel_rfl) K926
    ·
      cases h926; exact W.at 2 100000 [] [5] (by kernel_rfl) K926

theorem trigs_Of_con {l_900 : List (List UInt8 × List UInt8 × Bool)} {pkg_901 : List UInt8} {r : List (List UInt8 × List UInt8 × Bool)} (h : trigs_Of l_900 pkg_901 = some r) : Con Go.Proofs.Tryz.prog 26 [AV.list (Ty.prod Ty.str (Ty.prod Ty.str Ty.bool)) l_900 Bool.false, AV.str pkg_901] [] (trigs_Of_res r) (trigs_Of_out r) := by
  refine W.con (by kernel_rfl) ?_
  unfold trigs_Of at h
  refine W.bind h fun a_931 ha_931 h => ?_
  refine W.call 0 100000 (by kernel_rfl) (trigs_some_v1_con ha_931) (by kernel_rfl) ?_
  exact W.retT 0 100000 h (by kernel_rfl)

theorem cellarerref12_Of_con {l_936 : List (List UInt8 × List UInt8 × Bool)} {pkg_937 : List UInt8} {r : List (List UInt8 × List UInt8 × Bool)} (h : cellarerref12_Of l_936 pkg_937 = some r) : Con Go.Proofs.Tryz.prog 27 [AV.list (Ty.prod Ty.str (Ty.prod Ty.str Ty.bool)) l_936 Bool.false, AV.str pkg_937] [] (cellarerref12_Of_res r) (cellarerref12_Of_out r) := by
  refine W.con (by kernel_rfl) ?_
  unfold cellarerref12_Of at h
  refine W.at 0 100000 [Co.own 5 (Ty.prod Ty.str (Ty.prod Ty.str Ty.bool))] [0, 1, 5, 6] (c' := (fun (s_951 : Int × List (List UInt8 × List UInt8 × Bool)) => (Cfg.mk Mode.run (headTodo Go.Proofs.Tryz.prog 27 0) (St.mk [AV.list (Ty.prod Ty.str (Ty.prod Ty.str Ty.bool)) l_936 Bool.false, AV.str pkg_937, jj, jj, jj, AV.view (0 : Nat) (0 : Nat) Option.none, AV.int IntKind.i64 (Prod.fst s_951), jj, jj, jj, jj, jj, jj, jj, jj, jj, jj, jj, jj, jj, jj, jj, jj, jj, jj, jj, jj, jj] [AO.row (Ty.prod Ty.str (Ty.prod Ty.str Ty.bool)) (Prod.snd s_951)] (0 : Nat)))) ((0 : Int), [])) (by kernel_rfl) ?_
  refine W.loop (fun (s_951 : Int × List (List UInt8 × List UInt8 × Bool)) => (Cfg.mk Mode.run (headTodo Go.Proofs.Tryz.prog 27 0) (St.mk [AV.list (Ty.prod Ty.str (Ty.prod Ty.str Ty.bool)) l_936 Bool.false, AV.str pkg_937, jj, jj, jj, AV.view (0 : Nat) (0 : Nat) Option.none, AV.int IntKind.i64 (Prod.fst s_951), jj, jj, jj, jj, jj, jj, jj, jj, jj, jj, jj, jj, jj, jj, jj, jj, jj, jj, jj, jj, jj] [AO.row (Ty.prod Ty.str (Ty.prod Ty.str Ty.bool)) (Prod.snd s_951)] (0 : Nat)))) (fun t_946 => Walk Go.Proofs.Tryz.prog 27 (Cfg.mk Mode.run ((headTodo Go.Proofs.Tryz.prog 27 0).drop 3) (St.mk [jj, jj, jj, jj, jj, AV.view (0 : Nat) (0 : Nat) Option.none, jj, jj, jj, jj, jj, jj, jj, jj, jj, jj, jj, jj, jj, jj, jj, jj, jj, jj, jj, jj, jj, jj] [AO.row (Ty.prod Ty.str (Ty.prod Ty.str Ty.bool)) t_946] (0 : Nat))) (cellarerref12_Of_res r) (cellarerref12_Of_out r)) h (fun t_946 h => ?_) (fun s_951 x948 h948 K948 => ?_)
  ·
    exact W.retT 0 100000 h (by kernel_rfl)
  · unfold cellarerref12_Of_b0 at h948
    refine W.cond 2 100000 h948 (by kernel_rfl) (fun h948 => ?_) (fun h948 => ?_)
    ·
      refine W.needT 2 100000 h948 (by kernel_rfl) (fun h948 => ?_)
      refine W.cond 2 100000 h948 (by kernel_rfl) (fun h948 => ?_) (fun h948 => ?_)
      ·
        refine W.needT 2 100000 h948 (by kernel_rfl) (fun h948 => ?_)
        refine W.needT 2 100000 h948 (by kernel_rfl) (fun h948 => ?_)
        cases h948; exact W.at 2 100000 [Co.own 5 (Ty.prod Ty.str (Ty.prod Ty.str Ty.bool))] [0, 1, 5, 6] (by kernel_rfl) K948
      ·
        cases h948; exact W.at 2 100000 [Co.own 5 (Ty.prod Ty.str (Ty.prod Ty.str Ty.bool))] [0, 1, 5, 6] (by kernel_rfl) K948
    ·
      cases h948; exact W.at 2 100000 [] [5] (by kernel_rfl) K948

theorem trigs_For_1_con {x_962 : List UInt8} {x_963 : List UInt8} {x_964 : Bool} {o0_965 : List UInt8} {r : Bool × List UInt8} (h : trigs_For_1 x_962 x_963 x_964 o0_965 = some r) : Con Go.Proofs.Tryz.prog 60 [AV.agg [AV.str x_962, AV.str x_963, AV.bool x_964], AV.ptr (0 : Nat) (0 : Nat)] [AO.box [AV.str o0_965]] (trigs_For_1_res r) (trigs_For_1_out r) := by
  refine W.con (by kernel_rfl) ?_
  unfold trigs_For_1 at h
  exact W.retT 0 100000 h (by kernel_rfl)

theorem trigs_some_v2_con {l_956 : List (List UInt8 × List UInt8 × Bool)} {o0_957 : List UInt8} {r : List UInt8 × List (List UInt8 × List UInt8 × Bool)} (h : trigs_some_v2 l_956 o0_957 = some r) : Con Go.Proofs.Tryz.prog 52 [AV.list (Ty.prod Ty.str (Ty.prod Ty.str Ty.bool)) l_956 Bool.false, AV.func (Go.Fn.func (60 : Nat)) [] [AV.ptr (0 : Nat) (0 : Nat)]] [AO.box [AV.str o0_957]] (trigs_some_v2_res r) (trigs_some_v2_out r) := by
  refine W.con (by kernel_rfl) ?_
  unfold trigs_some_v2 at h
  refine W.at 0 100000 [Co.own 5 (Ty.prod Ty.str (Ty.prod Ty.str Ty.bool))] [1, 5, 8, 9, 10] (c' := (fun (s_984 : Int × List UInt8 × List (List UInt8 × List UInt8 × Bool)) => (Cfg.mk Mode.run (headTodo Go.Proofs.Tryz.prog 52 0) (St.mk [jj, AV.func (Go.Fn.func (60 : Nat)) [] [AV.ptr (0 : Nat) (0 : Nat)], jj, jj, jj, AV.view (1 : Nat) (0 : Nat) Option.none, jj, jj, AV.list (Ty.prod Ty.str (Ty.prod Ty.str Ty.bool)) l_956 Bool.false, AV.int IntKind.i64 (↑(List.length l_956) : Int), AV.int IntKind.i64 (Prod.fst s_984), jj, jj, jj, jj, jj, jj, jj, jj, jj, jj, jj, jj] [AO.box [AV.str (Prod.fst (Prod.snd s_984))], AO.row (Ty.prod Ty.str (Ty.prod Ty.str Ty.bool)) (Prod.snd (Prod.snd s_984))] (1 : Nat)))) ((0 : Int), o0_957, [])) (by kernel_rfl) ?_
  refine W.loop (fun (s_984 : Int × List UInt8 × List (List UInt8 × List UInt8 × Bool)) => (Cfg.mk Mode.run (headTodo Go.Proofs.Tryz.prog 52 0) (St.mk [jj, AV.func (Go.Fn.func (60 : Nat)) [] [AV.ptr (0 : Nat) (0 : Nat)], jj, jj, jj, AV.view (1 : Nat) (0 : Nat) Option.none, jj, jj, AV.list (Ty.prod Ty.str (Ty.prod Ty.str Ty.bool)) l_956 Bool.false, AV.int IntKind.i64 (↑(List.length l_956) : Int), AV.int IntKind.i64 (Prod.fst s_984), jj, jj, jj, jj, jj, jj, jj, jj, jj, jj, jj, jj] [AO.box [AV.str (Prod.fst (Prod.snd s_984))], AO.row (Ty.prod Ty.str (Ty.prod Ty.str Ty.bool)) (Prod.snd (Prod.snd s_984))] (1 : Nat)))) (fun t_978 => Walk Go.Proofs.Tryz.prog 52 (Cfg.mk Mode.run ((headTodo Go.Proofs.Tryz.prog 52 0).drop 3) (St.mk [jj, jj, jj, jj, jj, AV.view (1 : Nat) (0 : Nat) Option.none, jj, jj, jj, jj, jj, jj, jj, jj, jj, jj, jj, jj, jj, jj, jj, jj, jj] [AO.box [AV.str (Prod.fst t_978)], AO.row (Ty.prod Ty.str (Ty.prod Ty.str Ty.bool)) (Prod.snd t_978)] (1 : Nat))) (trigs_some_v2_res r) (trigs_some_v2_out r)) h (fun t_978 h => ?_) (fun s_984 x980 h980 K980 => ?_)
  ·
    exact W.retT 0 100000 h (by kernel_rfl)
  · unfold trigs_some_v2_b0 at h980
    refine W.cond 2 100000 h980 (by kernel_rfl) (fun h980 => ?_) (fun h980 => ?_)
    ·
      refine W.needT 2 100000 h980 (by kernel_rfl) (fun h980 => ?_)
      refine W.bind h980 fun a_975 ha_975 h980 => ?_
      refine W.call 2 100000 (by kernel_rfl) (trigs_For_1_con ha_975) (by kernel_rfl) ?_
      refine W.cond 2 100000 h980 (by kernel_rfl) (fun h980 => ?_) (fun h980 => ?_)
      ·
        refine W.needT 2 100000 h980 (by kernel_rfl) (fun h980 => ?_)
        cases h980; exact W.at 2 100000 [Co.own 5 (Ty.prod Ty.str (Ty.prod Ty.str Ty.bool))] [1, 5, 8, 9, 10] (by kernel_rfl) K980
      ·
        cases h980; exact W.at 2 100000 [Co.own 5 (Ty.prod Ty.str (Ty.prod Ty.str Ty.bool))] [1, 5, 8, 9, 10] (by kernel_rfl) K980
    ·
      cases h980; exact W.at 2 100000 [] [5] (by kernel_rfl) K980

theorem trigs_For_con {l_954 : List (List UInt8 × List UInt8 × Bool)} {trigger_955 : List UInt8} {r : List (List UInt8 × List UInt8 × Bool)} (h : trigs_For l_954 trigger_955 = some r) : Con Go.Proofs.Tryz.prog 28 [AV.list (Ty.prod Ty.str (Ty.prod Ty.str Ty.bool)) l_954 Bool.false, AV.str trigger_955] [] (trigs_For_res r) (trigs_For_out r) := by
  refine W.con (by kernel_rfl) ?_
  unfold trigs_For at h
  refine W.bind h fun a_985 ha_985 h => ?_
  refine W.call 0 100000 (by kernel_rfl) (trigs_some_v2_con ha_985) (by kernel_rfl) ?_
  exact W.retT 0 100000 h (by kernel_rfl)

end Go.Cellar
