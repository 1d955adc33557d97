/- What the program's functions come to: printed by a program, checked by Lean. No condition. -/
import Derived.Test.YtjjlkckemfdckaaDoorFun7
import Derived.Test.YtjjlkckemfdckaaDoorLib7
set_option maxRecDepth 4000
set_option linter.unusedVariables false
namespace Go.Cellar
open Go

theorem cellarerref05_Digit_con {c_1 : Int} {r : Bool} (h : cellarerref05_Digit c_1 = some r) : Con Go.Proofs.Tryd.prog 59 [AV.int IntKind.u8 c_1] [] (cellarerref05_Digit_res r) (cellarerref05_Digit_out r) := by
  refine W.con (by kernel_rfl) ?_
  unfold cellarerref05_Digit at h
  refine W.cond 0 100000 h (by kernel_rfl) (fun h => ?_) (fun h => ?_)
  ·
    refine W.yes 0 100000 (by kernel_rfl) ?_
    refine W.yes 0 100000 (by kernel_rfl) ?_
    exact W.retT 0 100000 h (by kernel_rfl)
  ·
    refine W.no 0 100000 (by kernel_rfl) ?_
    refine W.no 0 100000 (by kernel_rfl) ?_
    exact W.retT 0 100000 h (by kernel_rfl)

theorem cellarerref05_at_con {s_7 : List UInt8} {c_8 : Int} {last_9 : Bool} {r : Int} (h : cellarerref05_at s_7 c_8 last_9 = some r) : Con Go.Proofs.Tryd.prog 58 [AV.str s_7, AV.int IntKind.u8 c_8, AV.bool last_9] [] (cellarerref05_at_res r) (cellarerref05_at_out r) := by
  refine W.con (by kernel_rfl) ?_
  unfold cellarerref05_at at h
  refine W.at 0 100000 [] [0, 1, 2, 7, 8] (c' := (fun (s_21 : Int × Int) => (Cfg.mk Mode.run (headTodo Go.Proofs.Tryd.prog 58 0) (St.mk [AV.str s_7, AV.int IntKind.u8 c_8, AV.bool last_9, jj, jj, jj, jj, AV.int IntKind.i64 (Prod.fst s_21), AV.int IntKind.i64 (Prod.snd s_21), jj, jj, jj, jj, jj, jj, jj, jj, jj, jj, jj, jj, jj, jj, jj, jj, jj, jj, jj, jj] [] (0 : Nat)))) ((-1 : Int), (0 : Int))) (by kernel_rfl) ?_
  refine W.loop (fun (s_21 : Int × Int) => (Cfg.mk Mode.run (headTodo Go.Proofs.Tryd.prog 58 0) (St.mk [AV.str s_7, AV.int IntKind.u8 c_8, AV.bool last_9, jj, jj, jj, jj, AV.int IntKind.i64 (Prod.fst s_21), AV.int IntKind.i64 (Prod.snd s_21), jj, jj, jj, jj, jj, jj, jj, jj, jj, jj, jj, jj, jj, jj, jj, jj, jj, jj, jj, jj] [] (0 : Nat)))) (fun t_16 => Walk Go.Proofs.Tryd.prog 58 (Cfg.mk Mode.run ((headTodo Go.Proofs.Tryd.prog 58 0).drop 3) (St.mk [jj, jj, jj, jj, jj, jj, jj, AV.int IntKind.i64 t_16, jj, jj, jj, jj, jj, jj, jj, jj, jj, jj, jj, jj, jj, jj, jj, jj, jj, jj, jj, jj, jj] [] (0 : Nat))) (cellarerref05_at_res r) (cellarerref05_at_out r)) h (fun t_16 h => ?_) (fun s_21 x18 h18 K18 => ?_)
  ·
    exact W.retT 0 100000 h (by kernel_rfl)
  · unfold cellarerref05_at_b0 at h18
    refine W.cond 2 100000 h18 (by kernel_rfl) (fun h18 => ?_) (fun h18 => ?_)
    ·
      refine W.needT 2 100000 h18 (by kernel_rfl) (fun h18 => ?_)
      refine W.cond 2 100000 h18 (by kernel_rfl) (fun h18 => ?_) (fun h18 => ?_)
      ·
        refine W.yes 2 100000 (by kernel_rfl) ?_
        refine W.cond 2 100000 h18 (by kernel_rfl) (fun h18 => ?_) (fun h18 => ?_)
        ·
          refine W.yes 2 100000 (by kernel_rfl) ?_
          refine W.yes 2 100000 (by kernel_rfl) ?_
          refine W.yes 2 100000 (by kernel_rfl) ?_
          refine W.yes 2 100000 (by kernel_rfl) ?_
          refine W.yes 2 100000 (by kernel_rfl) ?_
          cases h18; exact W.at 2 100000 [] [0, 1, 2, 7, 8] (by kernel_rfl) K18
        ·
          refine W.no 2 100000 (by kernel_rfl) ?_
          refine W.yes 2 100000 (by kernel_rfl) ?_
          refine W.no 2 100000 (by kernel_rfl) ?_
          refine W.yes 2 100000 (by kernel_rfl) ?_
          refine W.cond 2 100000 h18 (by kernel_rfl) (fun h18 => ?_) (fun h18 => ?_)
          ·
            cases h18; exact W.at 2 100000 [] [0, 1, 2, 7, 8] (by kernel_rfl) K18
          ·
            cases h18; exact W.at 2 100000 [] [0, 1, 2, 7, 8] (by kernel_rfl) K18
      ·
        refine W.no 2 100000 (by kernel_rfl) ?_
        refine W.no 2 100000 (by kernel_rfl) ?_
        refine W.no 2 100000 (by kernel_rfl) ?_
        refine W.no 2 100000 (by kernel_rfl) ?_
        cases h18; exact W.at 2 100000 [] [0, 1, 2, 7, 8] (by kernel_rfl) K18
    ·
      cases h18; exact W.at 2 100000 [] [7] (by kernel_rfl) K18

theorem version_digit_con {c_23 : Int} {r : Bool} (h : version_digit c_23 = some r) : Con Go.Proofs.Tryd.prog 56 [AV.int IntKind.u8 c_23] [] (version_digit_res r) (version_digit_out r) := by
  refine W.con (by kernel_rfl) ?_
  unfold version_digit at h
  refine W.cond 0 100000 h (by kernel_rfl) (fun h => ?_) (fun h => ?_)
  ·
    refine W.yes 0 100000 (by kernel_rfl) ?_
    refine W.yes 0 100000 (by kernel_rfl) ?_
    exact W.retT 0 100000 h (by kernel_rfl)
  ·
    refine W.no 0 100000 (by kernel_rfl) ?_
    refine W.no 0 100000 (by kernel_rfl) ?_
    exact W.retT 0 100000 h (by kernel_rfl)

theorem version_letter_con {c_27 : Int} {r : Bool} (h : version_letter c_27 = some r) : Con Go.Proofs.Tryd.prog 69 [AV.int IntKind.u8 c_27] [] (version_letter_res r) (version_letter_out r) := by
  refine W.con (by kernel_rfl) ?_
  unfold version_letter at h
  refine W.cond 0 100000 h (by kernel_rfl) (fun h => ?_) (fun h => ?_)
  ·
    refine W.yes 0 100000 (by kernel_rfl) ?_
    refine W.yes 0 100000 (by kernel_rfl) ?_
    refine W.cond 0 100000 h (by kernel_rfl) (fun h => ?_) (fun h => ?_)
    ·
      refine W.yes 0 100000 (by kernel_rfl) ?_
      refine W.yes 0 100000 (by kernel_rfl) ?_
      refine W.yes 0 100000 (by kernel_rfl) ?_
      refine W.yes 0 100000 (by kernel_rfl) ?_
      exact W.retT 0 100000 h (by kernel_rfl)
    ·
      refine W.no 0 100000 (by kernel_rfl) ?_
      refine W.no 0 100000 (by kernel_rfl) ?_
      refine W.cond 0 100000 h (by kernel_rfl) (fun h => ?_) (fun h => ?_)
      ·
        refine W.yes 0 100000 (by kernel_rfl) ?_
        refine W.no 0 100000 (by kernel_rfl) ?_
        refine W.yes 0 100000 (by kernel_rfl) ?_
        refine W.no 0 100000 (by kernel_rfl) ?_
        exact W.retT 0 100000 h (by kernel_rfl)
      ·
        refine W.no 0 100000 (by kernel_rfl) ?_
        refine W.no 0 100000 (by kernel_rfl) ?_
        refine W.no 0 100000 (by kernel_rfl) ?_
        refine W.no 0 100000 (by kernel_rfl) ?_
        exact W.retT 0 100000 h (by kernel_rfl)
  ·
    refine W.no 0 100000 (by kernel_rfl) ?_
    refine W.no 0 100000 (by kernel_rfl) ?_
    refine W.no 0 100000 (by kernel_rfl) ?_
    refine W.no 0 100000 (by kernel_rfl) ?_
    refine W.no 0 100000 (by kernel_rfl) ?_
    refine W.cond 0 100000 h (by kernel_rfl) (fun h => ?_) (fun h => ?_)
    ·
      refine W.yes 0 100000 (by kernel_rfl) ?_
      refine W.no 0 100000 (by kernel_rfl) ?_
      refine W.yes 0 100000 (by kernel_rfl) ?_
      refine W.no 0 100000 (by kernel_rfl) ?_
      exact W.retT 0 100000 h (by kernel_rfl)
    ·
      refine W.no 0 100000 (by kernel_rfl) ?_
      refine W.no 0 100000 (by kernel_rfl) ?_
      refine W.no 0 100000 (by kernel_rfl) ?_
      refine W.no 0 100000 (by kernel_rfl) ?_
      exact W.retT 0 100000 h (by kernel_rfl)

theorem cellarerref05_Letter_con {c_31 : Int} {r : Bool} (h : cellarerref05_Letter c_31 = some r) : Con Go.Proofs.Tryd.prog 70 [AV.int IntKind.u8 c_31] [] (cellarerref05_Letter_res r) (cellarerref05_Letter_out r) := by
  refine W.con (by kernel_rfl) ?_
  unfold cellarerref05_Letter at h
  refine W.cond 0 100000 h (by kernel_rfl) (fun h => ?_) (fun h => ?_)
  ·
    refine W.yes 0 100000 (by kernel_rfl) ?_
    refine W.yes 0 100000 (by kernel_rfl) ?_
    refine W.cond 0 100000 h (by kernel_rfl) (fun h => ?_) (fun h => ?_)
    ·
      refine W.yes 0 100000 (by kernel_rfl) ?_
      refine W.yes 0 100000 (by kernel_rfl) ?_
      refine W.yes 0 100000 (by kernel_rfl) ?_
      refine W.yes 0 100000 (by kernel_rfl) ?_
      exact W.retT 0 100000 h (by kernel_rfl)
    ·
      refine W.no 0 100000 (by kernel_rfl) ?_
      refine W.no 0 100000 (by kernel_rfl) ?_
      refine W.cond 0 100000 h (by kernel_rfl) (fun h => ?_) (fun h => ?_)
      ·
        refine W.yes 0 100000 (by kernel_rfl) ?_
        refine W.no 0 100000 (by kernel_rfl) ?_
        refine W.yes 0 100000 (by kernel_rfl) ?_
        refine W.no 0 100000 (by kernel_rfl) ?_
        exact W.retT 0 100000 h (by kernel_rfl)
      ·
        refine W.no 0 100000 (by kernel_rfl) ?_
        refine W.no 0 100000 (by kernel_rfl) ?_
        refine W.no 0 100000 (by kernel_rfl) ?_
        refine W.no 0 100000 (by kernel_rfl) ?_
        exact W.retT 0 100000 h (by kernel_rfl)
  ·
    refine W.no 0 100000 (by kernel_rfl) ?_
    refine W.no 0 100000 (by kernel_rfl) ?_
    refine W.no 0 100000 (by kernel_rfl) ?_
    refine W.no 0 100000 (by kernel_rfl) ?_
    refine W.no 0 100000 (by kernel_rfl) ?_
    refine W.cond 0 100000 h (by kernel_rfl) (fun h => ?_) (fun h => ?_)
    ·
      refine W.yes 0 100000 (by kernel_rfl) ?_
      refine W.no 0 100000 (by kernel_rfl) ?_
      refine W.yes 0 100000 (by kernel_rfl) ?_
      refine W.no 0 100000 (by kernel_rfl) ?_
      exact W.retT 0 100000 h (by kernel_rfl)
    ·
      refine W.no 0 100000 (by kernel_rfl) ?_
      refine W.no 0 100000 (by kernel_rfl) ?_
      refine W.no 0 100000 (by kernel_rfl) ?_
      refine W.no 0 100000 (by kernel_rfl) ?_
      exact W.retT 0 100000 h (by kernel_rfl)

theorem stringslite_IndexByte_con {s_38 : List UInt8} {c_39 : Int} {r : Int} (h : stringslite_IndexByte s_38 c_39 = some r) : Con Go.Proofs.Tryd.prog 67 [AV.str s_38, AV.int IntKind.u8 c_39] [] (stringslite_IndexByte_res r) (stringslite_IndexByte_out r) := by
  refine W.con (by kernel_rfl) ?_
  unfold stringslite_IndexByte at h
  refine W.needT 0 100000 h (by kernel_rfl) (fun h => ?_)
  exact W.retT 0 100000 h (by kernel_rfl)

theorem strings_IndexByte_con {s_36 : List UInt8} {c_37 : Int} {r : Int} (h : strings_IndexByte s_36 c_37 = some r) : Con Go.Proofs.Tryd.prog 53 [AV.str s_36, AV.int IntKind.u8 c_37] [] (strings_IndexByte_res r) (strings_IndexByte_out r) := by
  refine W.con (by kernel_rfl) ?_
  unfold strings_IndexByte at h
  refine W.bind h fun a_42 ha_42 h => ?_
  refine W.call 0 100000 (by kernel_rfl) (stringslite_IndexByte_con ha_42) (by kernel_rfl) ?_
  exact W.retT 0 100000 h (by kernel_rfl)

theorem bytealg_LastIndexByteString_con {s_49 : List UInt8} {c_50 : Int} {r : Int} (h : bytealg_LastIndexByteString s_49 c_50 = some r) : Con Go.Proofs.Tryd.prog 68 [AV.str s_49, AV.int IntKind.u8 c_50] [] (bytealg_LastIndexByteString_res r) (bytealg_LastIndexByteString_out r) := by
  refine W.con (by kernel_rfl) ?_
  unfold bytealg_LastIndexByteString at h
  refine W.at 0 100000 [] [0, 1, 5] (c' := (fun (s_61 : Int) => (Cfg.mk Mode.run (headTodo Go.Proofs.Tryd.prog 68 0) (St.mk [AV.str s_49, AV.int IntKind.u8 c_50, jj, jj, jj, AV.int IntKind.i64 s_61, jj, jj, jj, jj, jj, jj, jj, jj, jj, jj, jj, jj, jj] [] (0 : Nat)))) (IntKind.wrap IntKind.i64 ((↑(List.length s_49) : Int) - (1 : Int)))) (by kernel_rfl) ?_
  refine W.loop (fun (s_61 : Int) => (Cfg.mk Mode.run (headTodo Go.Proofs.Tryd.prog 68 0) (St.mk [AV.str s_49, AV.int IntKind.u8 c_50, jj, jj, jj, AV.int IntKind.i64 s_61, jj, jj, jj, jj, jj, jj, jj, jj, jj, jj, jj, jj, jj] [] (0 : Nat)))) (fun t => (Sum.elim (fun t_55 => r = (t_55)) (fun t_56 => Walk Go.Proofs.Tryd.prog 68 (Cfg.mk Mode.run ((headTodo Go.Proofs.Tryd.prog 68 0).drop 3) (St.mk [jj, jj, jj, jj, jj, jj, jj, jj, jj, jj, jj, jj, jj, jj, jj, jj, jj, jj, jj] [] (0 : Nat))) (bytealg_LastIndexByteString_res r) (bytealg_LastIndexByteString_out r))) t) h (fun t h => ?_) (fun s_61 x58 h58 K58 => ?_)
  ·
    rcases t with t_55 | t_56
    · replace h := W.inl (h)
      refine W.elimL (?_)
      exact (Option.some.inj h).symm
    · replace h := W.inr (h)
      refine W.elimR (?_)
      exact W.retT 0 100000 h (by kernel_rfl)
  · unfold bytealg_LastIndexByteString_b0 at h58
    refine W.cond 2 100000 h58 (by kernel_rfl) (fun h58 => ?_) (fun h58 => ?_)
    ·
      refine W.needT 2 100000 h58 (by kernel_rfl) (fun h58 => ?_)
      refine W.cond 2 100000 h58 (by kernel_rfl) (fun h58 => ?_) (fun h58 => ?_)
      ·
        cases h58; exact W.retK 2 100000 K58 (by kernel_rfl)
      ·
        cases h58; exact W.at 2 100000 [] [0, 1, 5] (by kernel_rfl) K58
    ·
      cases h58; exact W.at 2 100000 [] [] (by kernel_rfl) K58

theorem strings_LastIndexByte_con {s_47 : List UInt8} {c_48 : Int} {r : Int} (h : strings_LastIndexByte s_47 c_48 = some r) : Con Go.Proofs.Tryd.prog 55 [AV.str s_47, AV.int IntKind.u8 c_48] [] (strings_LastIndexByte_res r) (strings_LastIndexByte_out r) := by
  refine W.con (by kernel_rfl) ?_
  unfold strings_LastIndexByte at h
  refine W.bind h fun a_62 ha_62 h => ?_
  refine W.call 0 100000 (by kernel_rfl) (bytealg_LastIndexByteString_con ha_62) (by kernel_rfl) ?_
  exact W.retT 0 100000 h (by kernel_rfl)

theorem version_only_con {s_67 : List UInt8} {marks_68 : List UInt8} {r : Bool} (h : version_only s_67 marks_68 = some r) : Con Go.Proofs.Tryd.prog 57 [AV.str s_67, AV.str marks_68] [] (version_only_res r) (version_only_out r) := by
  refine W.con (by kernel_rfl) ?_
  unfold version_only at h
  refine W.at 0 100000 [] [0, 1, 7, 8] (c' := (fun (s_82 : Int) => (Cfg.mk Mode.run (headTodo Go.Proofs.Tryd.prog 57 0) (St.mk [AV.str s_67, AV.str marks_68, jj, jj, jj, jj, jj, AV.int IntKind.i64 (↑(List.length s_67) : Int), AV.int IntKind.i64 s_82, jj, jj, jj, jj, jj, jj, jj, jj, jj, jj, jj, jj, jj, jj, jj, jj, jj, jj, jj, jj, jj, jj, jj] [] (0 : Nat)))) ((0 : Int))) (by kernel_rfl) ?_
  refine W.loop (fun (s_82 : Int) => (Cfg.mk Mode.run (headTodo Go.Proofs.Tryd.prog 57 0) (St.mk [AV.str s_67, AV.str marks_68, jj, jj, jj, jj, jj, AV.int IntKind.i64 (↑(List.length s_67) : Int), AV.int IntKind.i64 s_82, jj, jj, jj, jj, jj, jj, jj, jj, jj, jj, jj, jj, jj, jj, jj, jj, jj, jj, jj, jj, jj, jj, jj] [] (0 : Nat)))) (fun t => (Sum.elim (fun t_76 => r = (Bool.false)) (fun t_77 => Walk Go.Proofs.Tryd.prog 57 (Cfg.mk Mode.run ((headTodo Go.Proofs.Tryd.prog 57 0).drop 3) (St.mk [jj, jj, jj, jj, jj, jj, jj, jj, jj, jj, jj, jj, jj, jj, jj, jj, jj, jj, jj, jj, jj, jj, jj, jj, jj, jj, jj, jj, jj, jj, jj, jj] [] (0 : Nat))) (version_only_res r) (version_only_out r))) t) h (fun t h => ?_) (fun s_82 x79 h79 K79 => ?_)
  ·
    rcases t with t_76 | t_77
    · replace h := W.inl (h)
      refine W.elimL (?_)
      exact (Option.some.inj h).symm
    · replace h := W.inr (h)
      refine W.elimR (?_)
      exact W.retT 0 100000 h (by kernel_rfl)
  · unfold version_only_b0 at h79
    refine W.cond 2 100000 h79 (by kernel_rfl) (fun h79 => ?_) (fun h79 => ?_)
    ·
      refine W.needT 2 100000 h79 (by kernel_rfl) (fun h79 => ?_)
      refine W.bind h79 fun a_73 ha_73 h79 => ?_
      refine W.call 2 100000 (by kernel_rfl) (version_digit_con ha_73) (by kernel_rfl) ?_
      refine W.cond 2 100000 h79 (by kernel_rfl) (fun h79 => ?_) (fun h79 => ?_)
      ·
        refine W.yes 2 100000 (by kernel_rfl) ?_
        refine W.yes 2 100000 (by kernel_rfl) ?_
        refine W.needT 2 100000 h79 (by kernel_rfl) (fun h79 => ?_)
        refine W.yes 2 100000 (by kernel_rfl) ?_
        refine W.bind h79 fun a_74 ha_74 h79 => ?_
        refine W.call 2 100000 (by kernel_rfl) (version_letter_con ha_74) (by kernel_rfl) ?_
        refine W.yes 2 100000 (by kernel_rfl) ?_
        refine W.yes 2 100000 (by kernel_rfl) ?_
        refine W.cond 2 100000 h79 (by kernel_rfl) (fun h79 => ?_) (fun h79 => ?_)
        ·
          refine W.yes 2 100000 (by kernel_rfl) ?_
          refine W.yes 2 100000 (by kernel_rfl) ?_
          refine W.yes 2 100000 (by kernel_rfl) ?_
          refine W.needT 2 100000 h79 (by kernel_rfl) (fun h79 => ?_)
          refine W.yes 2 100000 (by kernel_rfl) ?_
          refine W.bind h79 fun a_75 ha_75 h79 => ?_
          refine W.call 2 100000 (by kernel_rfl) (strings_IndexByte_con ha_75) (by kernel_rfl) ?_
          refine W.yes 2 100000 (by kernel_rfl) ?_
          refine W.yes 2 100000 (by kernel_rfl) ?_
          refine W.cond 2 100000 h79 (by kernel_rfl) (fun h79 => ?_) (fun h79 => ?_)
          ·
            cases h79; exact W.retK 2 100000 K79 (by kernel_rfl)
          ·
            cases h79; exact W.at 2 100000 [] [0, 1, 7, 8] (by kernel_rfl) K79
        ·
          refine W.no 2 100000 (by kernel_rfl) ?_
          refine W.no 2 100000 (by kernel_rfl) ?_
          refine W.no 2 100000 (by kernel_rfl) ?_
          refine W.no 2 100000 (by kernel_rfl) ?_
          refine W.no 2 100000 (by kernel_rfl) ?_
          refine W.no 2 100000 (by kernel_rfl) ?_
          refine W.no 2 100000 (by kernel_rfl) ?_
          cases h79; exact W.at 2 100000 [] [0, 1, 7, 8] (by kernel_rfl) K79
      ·
        refine W.no 2 100000 (by kernel_rfl) ?_
        refine W.no 2 100000 (by kernel_rfl) ?_
        refine W.no 2 100000 (by kernel_rfl) ?_
        refine W.no 2 100000 (by kernel_rfl) ?_
        refine W.no 2 100000 (by kernel_rfl) ?_
        refine W.no 2 100000 (by kernel_rfl) ?_
        refine W.no 2 100000 (by kernel_rfl) ?_
        refine W.no 2 100000 (by kernel_rfl) ?_
        refine W.no 2 100000 (by kernel_rfl) ?_
        refine W.no 2 100000 (by kernel_rfl) ?_
        refine W.no 2 100000 (by kernel_rfl) ?_
        refine W.no 2 100000 (by kernel_rfl) ?_
        refine W.no 2 100000 (by kernel_rfl) ?_
        cases h79; exact W.at 2 100000 [] [0, 1, 7, 8] (by kernel_rfl) K79
    ·
      cases h79; exact W.at 2 100000 [] [] (by kernel_rfl) K79

theorem cellarerref05_only_con {s_85 : List UInt8} {marks_86 : List UInt8} {r : Bool} (h : cellarerref05_only s_85 marks_86 = some r) : Con Go.Proofs.Tryd.prog 60 [AV.str s_85, AV.str marks_86] [] (cellarerref05_only_res r) (cellarerref05_only_out r) := by
  refine W.con (by kernel_rfl) ?_
  unfold cellarerref05_only at h
  refine W.at 0 100000 [] [0, 1, 5] (c' := (fun (s_99 : Int) => (Cfg.mk Mode.run (headTodo Go.Proofs.Tryd.prog 60 0) (St.mk [AV.str s_85, AV.str marks_86, jj, jj, jj, AV.int IntKind.i64 s_99, jj, jj, jj, jj, jj, jj, jj, jj, jj, jj, jj, jj, jj, jj, jj, jj, jj, jj, jj, jj, jj, jj, jj, jj, jj, jj] [] (0 : Nat)))) ((0 : Int))) (by kernel_rfl) ?_
  refine W.loop (fun (s_99 : Int) => (Cfg.mk Mode.run (headTodo Go.Proofs.Tryd.prog 60 0) (St.mk [AV.str s_85, AV.str marks_86, jj, jj, jj, AV.int IntKind.i64 s_99, jj, jj, jj, jj, jj, jj, jj, jj, jj, jj, jj, jj, jj, jj, jj, jj, jj, jj, jj, jj, jj, jj, jj, jj, jj, jj] [] (0 : Nat)))) (fun t => (Sum.elim (fun t_93 => r = (Bool.false)) (fun t_94 => Walk Go.Proofs.Tryd.prog 60 (Cfg.mk Mode.run ((headTodo Go.Proofs.Tryd.prog 60 0).drop 3) (St.mk [jj, jj, jj, jj, jj, jj, jj, jj, jj, jj, jj, jj, jj, jj, jj, jj, jj, jj, jj, jj, jj, jj, jj, jj, jj, jj, jj, jj, jj, jj, jj, jj] [] (0 : Nat))) (cellarerref05_only_res r) (cellarerref05_only_out r))) t) h (fun t h => ?_) (fun s_99 x96 h96 K96 => ?_)
  ·
    rcases t with t_93 | t_94
    · replace h := W.inl (h)
      refine W.elimL (?_)
      exact (Option.some.inj h).symm
    · replace h := W.inr (h)
      refine W.elimR (?_)
      exact W.retT 0 100000 h (by kernel_rfl)
  · unfold cellarerref05_only_b0 at h96
    refine W.cond 2 100000 h96 (by kernel_rfl) (fun h96 => ?_) (fun h96 => ?_)
    ·
      refine W.needT 2 100000 h96 (by kernel_rfl) (fun h96 => ?_)
      refine W.bind h96 fun a_90 ha_90 h96 => ?_
      refine W.call 2 100000 (by kernel_rfl) (cellarerref05_Digit_con ha_90) (by kernel_rfl) ?_
      refine W.cond 2 100000 h96 (by kernel_rfl) (fun h96 => ?_) (fun h96 => ?_)
      ·
        refine W.yes 2 100000 (by kernel_rfl) ?_
        refine W.yes 2 100000 (by kernel_rfl) ?_
        refine W.needT 2 100000 h96 (by kernel_rfl) (fun h96 => ?_)
        refine W.yes 2 100000 (by kernel_rfl) ?_
        refine W.bind h96 fun a_91 ha_91 h96 => ?_
        refine W.call 2 100000 (by kernel_rfl) (cellarerref05_Letter_con ha_91) (by kernel_rfl) ?_
        refine W.yes 2 100000 (by kernel_rfl) ?_
        refine W.yes 2 100000 (by kernel_rfl) ?_
        refine W.cond 2 100000 h96 (by kernel_rfl) (fun h96 => ?_) (fun h96 => ?_)
        ·
          refine W.yes 2 100000 (by kernel_rfl) ?_
          refine W.yes 2 100000 (by kernel_rfl) ?_
          refine W.yes 2 100000 (by kernel_rfl) ?_
          refine W.needT 2 100000 h96 (by kernel_rfl) (fun h96 => ?_)
          refine W.yes 2 100000 (by kernel_rfl) ?_
          refine W.bind h96 fun a_92 ha_92 h96 => ?_
          refine W.call 2 100000 (by kernel_rfl) (cellarerref05_at_con ha_92) (by kernel_rfl) ?_
          refine W.yes 2 100000 (by kernel_rfl) ?_
          refine W.yes 2 100000 (by kernel_rfl) ?_
          refine W.cond 2 100000 h96 (by kernel_rfl) (fun h96 => ?_) (fun h96 => ?_)
          ·
            cases h96; exact W.retK 2 100000 K96 (by kernel_rfl)
          ·
            cases h96; exact W.at 2 100000 [] [0, 1, 5] (by kernel_rfl) K96
        ·
          refine W.no 2 100000 (by kernel_rfl) ?_
          refine W.no 2 100000 (by kernel_rfl) ?_
          refine W.no 2 100000 (by kernel_rfl) ?_
          refine W.no 2 100000 (by kernel_rfl) ?_
          refine W.no 2 100000 (by kernel_rfl) ?_
          refine W.no 2 100000 (by kernel_rfl) ?_
          refine W.no 2 100000 (by kernel_rfl) ?_
          cases h96; exact W.at 2 100000 [] [0, 1, 5] (by kernel_rfl) K96
      ·
        refine W.no 2 100000 (by kernel_rfl) ?_
        refine W.no 2 100000 (by kernel_rfl) ?_
        refine W.no 2 100000 (by kernel_rfl) ?_
        refine W.no 2 100000 (by kernel_rfl) ?_
        refine W.no 2 100000 (by kernel_rfl) ?_
        refine W.no 2 100000 (by kernel_rfl) ?_
        refine W.no 2 100000 (by kernel_rfl) ?_
        refine W.no 2 100000 (by kernel_rfl) ?_
        refine W.no 2 100000 (by kernel_rfl) ?_
        refine W.no 2 100000 (by kernel_rfl) ?_
        refine W.no 2 100000 (by kernel_rfl) ?_
        refine W.no 2 100000 (by kernel_rfl) ?_
        refine W.no 2 100000 (by kernel_rfl) ?_
        cases h96; exact W.at 2 100000 [] [0, 1, 5] (by kernel_rfl) K96
    ·
      cases h96; exact W.at 2 100000 [] [] (by kernel_rfl) K96

theorem version_epoch_con {s_101 : List UInt8} {r : Int × Bool} (h : version_epoch s_101 = some r) : Con Go.Proofs.Tryd.prog 54 [AV.str s_101] [] (version_epoch_res r) (version_epoch_out r) := by
  refine W.con (by kernel_rfl) ?_
  unfold version_epoch at h
  refine W.join (fun t => (Sum.elim (fun t_102 => r = ((0 : Int), Bool.false)) (fun t_103 => Walk Go.Proofs.Tryd.prog 54 (Cfg.mk Mode.run (seqTodo Go.Proofs.Tryd.prog 54 1) (St.mk [AV.str s_101, jj, jj, jj, jj, jj, jj, jj, jj, jj, jj, jj, jj, jj, jj, jj, jj, jj, jj, jj, jj, jj, jj, jj, jj, jj, jj, jj, jj, jj, jj, jj, jj, jj] [] (0 : Nat))) (version_epoch_res r) (version_epoch_out r))) t) h (fun t h => ?_) (fun t114 h114 K114 => ?_)
  ·
    rcases t with t_102 | t_103
    · replace h := W.inl (h)
      refine W.elimL (?_)
      exact (Option.some.inj h).symm
    · replace h := W.inr (h)
      refine W.elimR (?_)
      refine W.at 0 100000 [] [0, 4, 15, 16] (c' := (fun (s_118 : Int × Int) => (Cfg.mk Mode.run (headTodo Go.Proofs.Tryd.prog 54 0) (St.mk [AV.str s_101, jj, jj, jj, AV.int IntKind.i64 (Prod.fst s_118), jj, jj, jj, jj, jj, jj, jj, jj, jj, jj, AV.int IntKind.i64 (↑(List.length s_101) : Int), AV.int IntKind.i64 (Prod.snd s_118), jj, jj, jj, jj, jj, jj, jj, jj, jj, jj, jj, jj, jj, jj, jj, jj, jj] [] (0 : Nat)))) ((0 : Int), (0 : Int))) (by kernel_rfl) ?_
      refine W.loop (fun (s_118 : Int × Int) => (Cfg.mk Mode.run (headTodo Go.Proofs.Tryd.prog 54 0) (St.mk [AV.str s_101, jj, jj, jj, AV.int IntKind.i64 (Prod.fst s_118), jj, jj, jj, jj, jj, jj, jj, jj, jj, jj, AV.int IntKind.i64 (↑(List.length s_101) : Int), AV.int IntKind.i64 (Prod.snd s_118), jj, jj, jj, jj, jj, jj, jj, jj, jj, jj, jj, jj, jj, jj, jj, jj, jj] [] (0 : Nat)))) (fun t => (Sum.elim (fun t_109 => r = ((0 : Int), Bool.false)) (fun t_111 => Walk Go.Proofs.Tryd.prog 54 (Cfg.mk Mode.run ((headTodo Go.Proofs.Tryd.prog 54 0).drop 3) (St.mk [jj, jj, jj, jj, AV.int IntKind.i64 t_111, jj, jj, jj, jj, jj, jj, jj, jj, jj, jj, jj, jj, jj, jj, jj, jj, jj, jj, jj, jj, jj, jj, jj, jj, jj, jj, jj, jj, jj] [] (0 : Nat))) (version_epoch_res r) (version_epoch_out r))) t) h (fun t h => ?_) (fun s_118 x113 h113 K113 => ?_)
      ·
        rcases t with t_109 | t_111
        · replace h := W.inl (h)
          refine W.elimL (?_)
          exact (Option.some.inj h).symm
        · replace h := W.inr (h)
          refine W.elimR (?_)
          exact W.retT 0 100000 h (by kernel_rfl)
      · unfold version_epoch_b0 at h113
        refine W.cond 2 100000 h113 (by kernel_rfl) (fun h113 => ?_) (fun h113 => ?_)
        ·
          refine W.needT 2 100000 h113 (by kernel_rfl) (fun h113 => ?_)
          refine W.bind h113 fun a_108 ha_108 h113 => ?_
          refine W.call 2 100000 (by kernel_rfl) (version_digit_con ha_108) (by kernel_rfl) ?_
          refine W.cond 2 100000 h113 (by kernel_rfl) (fun h113 => ?_) (fun h113 => ?_)
          ·
            cases h113; exact W.retK 2 100000 K113 (by kernel_rfl)
          ·
            refine W.needT 2 100000 h113 (by kernel_rfl) (fun h113 => ?_)
            cases h113; exact W.at 2 100000 [] [0, 4, 15, 16] (by kernel_rfl) K113
        ·
          cases h113; exact W.at 2 100000 [] [4] (by kernel_rfl) K113
  · refine W.next 0 6 (by kernel_rfl) ?_
    refine W.cond 1 100000 h114 (by kernel_rfl) (fun h114 => ?_) (fun h114 => ?_)
    ·
      refine W.yes 1 100000 (by kernel_rfl) ?_
      refine W.yes 1 100000 (by kernel_rfl) ?_
      refine W.yes 1 100000 (by kernel_rfl) ?_
      refine W.yes 1 100000 (by kernel_rfl) ?_
      cases h114; exact W.retK 1 100000 K114 (by kernel_rfl)
    ·
      refine W.no 1 100000 (by kernel_rfl) ?_
      refine W.no 1 100000 (by kernel_rfl) ?_
      refine W.no 1 100000 (by kernel_rfl) ?_
      refine W.cond 1 100000 h114 (by kernel_rfl) (fun h114 => ?_) (fun h114 => ?_)
      ·
        cases h114; exact W.retK 1 100000 K114 (by kernel_rfl)
      ·
        cases h114; exact W.at 1 100000 [] [0] (by kernel_rfl) K114

theorem strings_trimLeftByte_con {s_136 : List UInt8} {c_137 : Int} {r : List UInt8} (h : strings_trimLeftByte s_136 c_137 = some r) : Con Go.Proofs.Tryd.prog 105 [AV.str s_136, AV.int IntKind.u8 c_137] [] (strings_trimLeftByte_res r) (strings_trimLeftByte_out r) := by
  refine W.con (by kernel_rfl) ?_
  unfold strings_trimLeftByte at h
  refine W.at 0 100000 [] [0, 1] (c' := (fun (s_149 : List UInt8) => (Cfg.mk Mode.run (headTodo Go.Proofs.Tryd.prog 105 0) (St.mk [AV.str s_149, AV.int IntKind.u8 c_137, jj, jj, jj, jj, jj, jj, jj, jj, jj, jj, jj, jj, jj, jj, jj] [] (0 : Nat)))) (s_136)) (by kernel_rfl) ?_
  refine W.loop (fun (s_149 : List UInt8) => (Cfg.mk Mode.run (headTodo Go.Proofs.Tryd.prog 105 0) (St.mk [AV.str s_149, AV.int IntKind.u8 c_137, jj, jj, jj, jj, jj, jj, jj, jj, jj, jj, jj, jj, jj, jj, jj] [] (0 : Nat)))) (fun t_144 => Walk Go.Proofs.Tryd.prog 105 (Cfg.mk Mode.run ((headTodo Go.Proofs.Tryd.prog 105 0).drop 3) (St.mk [AV.str t_144, jj, jj, jj, jj, jj, jj, jj, jj, jj, jj, jj, jj, jj, jj, jj, jj] [] (0 : Nat))) (strings_trimLeftByte_res r) (strings_trimLeftByte_out r)) h (fun t_144 h => ?_) (fun s_149 x146 h146 K146 => ?_)
  ·
    exact W.retT 0 100000 h (by kernel_rfl)
  · unfold strings_trimLeftByte_b0 at h146
    refine W.join (fun t => (Sum.elim (fun t_140 => Walk Go.Proofs.Tryd.prog 105 (Cfg.mk Mode.run (seqTodo Go.Proofs.Tryd.prog 105 2) (St.mk [AV.str s_149, AV.int IntKind.u8 c_137, jj, jj, jj, jj, jj, jj, jj, jj, jj, jj, jj, jj, jj, jj, jj] [] (0 : Nat))) (strings_trimLeftByte_res r) (strings_trimLeftByte_out r)) (fun t_141 => Walk Go.Proofs.Tryd.prog 105 (Cfg.mk Mode.run ((seqTodo Go.Proofs.Tryd.prog 105 2).drop 3) (St.mk [AV.str s_149, jj, jj, jj, jj, jj, jj, jj, jj, jj, jj, jj, jj, jj, jj, jj, jj] [] (0 : Nat))) (strings_trimLeftByte_res r) (strings_trimLeftByte_out r))) t) h146 (fun t h146 => ?_) (fun t143 h143 K143 => ?_)
    ·
      rcases t with t_140 | t_141
      · replace h146 := W.inl (h146)
        refine W.elimL (?_)
        refine W.needT 2 100000 h146 (by kernel_rfl) (fun h146 => ?_)
        cases h146; exact W.at 2 100000 [] [0, 1] (by kernel_rfl) K146
      · replace h146 := W.inr (h146)
        refine W.elimR (?_)
        cases h146; exact W.at 2 100000 [] [0] (by kernel_rfl) K146
    · refine W.next 2 1 (by kernel_rfl) ?_
      refine W.cond 4 100000 h143 (by kernel_rfl) (fun h143 => ?_) (fun h143 => ?_)
      ·
        refine W.yes 4 100000 (by kernel_rfl) ?_
        refine W.needT 4 100000 h143 (by kernel_rfl) (fun h143 => ?_)
        refine W.yes 4 100000 (by kernel_rfl) ?_
        refine W.yes 4 100000 (by kernel_rfl) ?_
        refine W.yes 4 100000 (by kernel_rfl) ?_
        refine W.cond 4 100000 h143 (by kernel_rfl) (fun h143 => ?_) (fun h143 => ?_)
        ·
          cases h143; exact W.at 4 100000 [] [0, 1] (by kernel_rfl) K143
        ·
          cases h143; exact W.at 4 100000 [] [0] (by kernel_rfl) K143
      ·
        refine W.no 4 100000 (by kernel_rfl) ?_
        refine W.no 4 100000 (by kernel_rfl) ?_
        refine W.no 4 100000 (by kernel_rfl) ?_
        refine W.no 4 100000 (by kernel_rfl) ?_
        refine W.no 4 100000 (by kernel_rfl) ?_
        cases h143; exact W.at 4 100000 [] [0] (by kernel_rfl) K143

theorem strings_TrimLeft_con {s_165 : List UInt8} {r : List UInt8} (h : strings_TrimLeft s_165 = some r) : Con Go.Proofs.Tryd.prog 101 [AV.str s_165, AV.str [(48 : UInt8)]] [] (strings_TrimLeft_res r) (strings_TrimLeft_out r) := by
  refine W.con (by kernel_rfl) ?_
  unfold strings_TrimLeft at h
  refine W.join (fun t => (Sum.elim (fun t_166 => r = (s_165)) (fun t_167 => Walk Go.Proofs.Tryd.prog 101 (Cfg.mk Mode.run (seqTodo Go.Proofs.Tryd.prog 101 1) (St.mk [AV.str s_165, AV.str [(48 : UInt8)], jj, jj, jj, jj, jj, jj, jj, jj, jj, jj, jj, jj, jj, jj, jj, jj, jj, jj, jj, jj, jj, jj, jj, jj, jj, jj, jj, jj, jj, jj, jj, jj, jj, jj, jj] [] (0 : Nat))) (strings_TrimLeft_res r) (strings_TrimLeft_out r))) t) h (fun t h => ?_) (fun t173 h173 K173 => ?_)
  ·
    rcases t with t_166 | t_167
    · replace h := W.inl (h)
      refine W.elimL (?_)
      exact (Option.some.inj h).symm
    · replace h := W.inr (h)
      refine W.elimR (?_)
      refine W.join (fun t_170 => r = (t_170)) h (fun t_170 h => ?_) (fun t172 h172 K172 => ?_)
      ·
        exact (Option.some.inj h).symm
      · refine W.next 0 1 (by kernel_rfl) ?_
        refine W.yes 1 100000 (by kernel_rfl) ?_
        refine W.yes 1 100000 (by kernel_rfl) ?_
        refine W.need 1 100000 (p := (0 : Int) ≤ (0 : Int) ∧ (0 : Int) < (↑(List.length ((fun (x : List UInt8) => x) [(48 : UInt8)])) : Int)) (by kernel_rfl) (by decide) ?_
        refine W.yes 1 100000 (by kernel_rfl) ?_
        refine W.yes 1 100000 (by kernel_rfl) ?_
        refine W.yes 1 100000 (by kernel_rfl) ?_
        refine W.need 1 100000 (p := (0 : Int) ≤ (0 : Int) ∧ (0 : Int) < (↑(List.length ((fun (x : List UInt8) => x) [(48 : UInt8)])) : Int)) (by kernel_rfl) (by decide) ?_
        refine W.bind h172 fun a_168 ha_168 h172 => ?_
        refine W.call 1 100000 (by kernel_rfl) (strings_trimLeftByte_con ha_168) (by kernel_rfl) ?_
        cases h172; exact W.retK 1 100000 K172 (by kernel_rfl)
  · refine W.next 0 5 (by kernel_rfl) ?_
    refine W.cond 1 100000 h173 (by kernel_rfl) (fun h173 => ?_) (fun h173 => ?_)
    ·
      refine W.yes 1 100000 (by kernel_rfl) ?_
      refine W.yes 1 100000 (by kernel_rfl) ?_
      refine W.yes 1 100000 (by kernel_rfl) ?_
      cases h173; exact W.retK 1 100000 K173 (by kernel_rfl)
    ·
      refine W.no 1 100000 (by kernel_rfl) ?_
      refine W.no 1 100000 (by kernel_rfl) ?_
      refine W.no 1 100000 (by kernel_rfl) ?_
      cases h173; exact W.at 1 100000 [] [0, 1] (by kernel_rfl) K173

theorem version_number_con {s_121 : List UInt8} {i_122 : Int} {r : List UInt8 × Int} (h : version_number s_121 i_122 = some r) : Con Go.Proofs.Tryd.prog 90 [AV.str s_121, AV.int IntKind.i64 i_122] [] (version_number_res r) (version_number_out r) := by
  refine W.con (by kernel_rfl) ?_
  unfold version_number at h
  refine W.at 0 100000 [] [0, 1, 6] (c' := (fun (s_181 : Int) => (Cfg.mk Mode.run (headTodo Go.Proofs.Tryd.prog 90 0) (St.mk [AV.str s_121, AV.int IntKind.i64 s_181, jj, jj, jj, jj, AV.int IntKind.i64 i_122, jj, jj, jj, jj, jj, jj, jj, jj, jj, jj, jj, jj, jj, jj, jj, jj, jj, jj, jj] [] (0 : Nat)))) (i_122)) (by kernel_rfl) ?_
  refine W.loop (fun (s_181 : Int) => (Cfg.mk Mode.run (headTodo Go.Proofs.Tryd.prog 90 0) (St.mk [AV.str s_121, AV.int IntKind.i64 s_181, jj, jj, jj, jj, AV.int IntKind.i64 i_122, jj, jj, jj, jj, jj, jj, jj, jj, jj, jj, jj, jj, jj, jj, jj, jj, jj, jj, jj] [] (0 : Nat)))) (fun t_131 => Walk Go.Proofs.Tryd.prog 90 (Cfg.mk Mode.run ((headTodo Go.Proofs.Tryd.prog 90 0).drop 3) (St.mk [AV.str s_121, AV.int IntKind.i64 t_131, jj, jj, jj, jj, AV.int IntKind.i64 i_122, jj, jj, jj, jj, jj, jj, jj, jj, jj, jj, jj, jj, jj, jj, jj, jj, jj, jj, jj] [] (0 : Nat))) (version_number_res r) (version_number_out r)) h (fun t_131 h => ?_) (fun s_181 x177 h177 K177 => ?_)
  ·
    refine W.needT 0 100000 h (by kernel_rfl) (fun h => ?_)
    refine W.bind h fun a_175 ha_175 h => ?_
    refine W.call 0 100000 (by kernel_rfl) (strings_TrimLeft_con ha_175) (by kernel_rfl) ?_
    exact W.retT 0 100000 h (by kernel_rfl)
  · unfold version_number_b0 at h177
    refine W.join (fun t => (Sum.elim (fun t_127 => Walk Go.Proofs.Tryd.prog 90 (Cfg.mk Mode.run (seqTodo Go.Proofs.Tryd.prog 90 3) (St.mk [AV.str s_121, AV.int IntKind.i64 s_181, jj, jj, jj, jj, AV.int IntKind.i64 i_122, jj, jj, jj, jj, jj, jj, jj, jj, jj, jj, jj, jj, jj, jj, jj, jj, jj, jj, jj] [] (0 : Nat))) (version_number_res r) (version_number_out r)) (fun t_128 => Walk Go.Proofs.Tryd.prog 90 (Cfg.mk Mode.run ((seqTodo Go.Proofs.Tryd.prog 90 3).drop 3) (St.mk [AV.str s_121, AV.int IntKind.i64 s_181, jj, jj, jj, jj, AV.int IntKind.i64 i_122, jj, jj, jj, jj, jj, jj, jj, jj, jj, jj, jj, jj, jj, jj, jj, jj, jj, jj, jj] [] (0 : Nat))) (version_number_res r) (version_number_out r))) t) h177 (fun t h177 => ?_) (fun t130 h130 K130 => ?_)
    ·
      rcases t with t_127 | t_128
      · replace h177 := W.inl (h177)
        refine W.elimL (?_)
        cases h177; exact W.at 2 100000 [] [0, 1, 6] (by kernel_rfl) K177
      · replace h177 := W.inr (h177)
        refine W.elimR (?_)
        cases h177; exact W.at 2 100000 [] [0, 1, 6] (by kernel_rfl) K177
    · refine W.next 2 1 (by kernel_rfl) ?_
      refine W.cond 4 100000 h130 (by kernel_rfl) (fun h130 => ?_) (fun h130 => ?_)
      ·
        refine W.yes 4 100000 (by kernel_rfl) ?_
        refine W.yes 4 100000 (by kernel_rfl) ?_
        refine W.needT 4 100000 h130 (by kernel_rfl) (fun h130 => ?_)
        refine W.yes 4 100000 (by kernel_rfl) ?_
        refine W.bind h130 fun a_126 ha_126 h130 => ?_
        refine W.call 4 100000 (by kernel_rfl) (version_digit_con ha_126) (by kernel_rfl) ?_
        refine W.yes 4 100000 (by kernel_rfl) ?_
        refine W.cond 4 100000 h130 (by kernel_rfl) (fun h130 => ?_) (fun h130 => ?_)
        ·
          cases h130; exact W.at 4 100000 [] [0, 1, 6] (by kernel_rfl) K130
        ·
          cases h130; exact W.at 4 100000 [] [0, 1, 6] (by kernel_rfl) K130
      ·
        refine W.no 4 100000 (by kernel_rfl) ?_
        refine W.no 4 100000 (by kernel_rfl) ?_
        refine W.no 4 100000 (by kernel_rfl) ?_
        refine W.no 4 100000 (by kernel_rfl) ?_
        refine W.no 4 100000 (by kernel_rfl) ?_
        cases h130; exact W.at 4 100000 [] [0, 1, 6] (by kernel_rfl) K130

theorem version_weight_con {s_184 : List UInt8} {i_185 : Int} {r : Int} (h : version_weight s_184 i_185 = some r) : Con Go.Proofs.Tryd.prog 89 [AV.str s_184, AV.int IntKind.i64 i_185] [] (version_weight_res r) (version_weight_out r) := by
  refine W.con (by kernel_rfl) ?_
  unfold version_weight at h
  refine W.cond 0 100000 h (by kernel_rfl) (fun h => ?_) (fun h => ?_)
  ·
    refine W.yes 0 100000 (by kernel_rfl) ?_
    refine W.yes 0 100000 (by kernel_rfl) ?_
    refine W.yes 0 100000 (by kernel_rfl) ?_
    refine W.yes 0 100000 (by kernel_rfl) ?_
    refine W.yes 0 100000 (by kernel_rfl) ?_
    exact W.retT 0 100000 h (by kernel_rfl)
  ·
    refine W.no 0 100000 (by kernel_rfl) ?_
    refine W.no 0 100000 (by kernel_rfl) ?_
    refine W.needT 0 100000 h (by kernel_rfl) (fun h => ?_)
    refine W.no 0 100000 (by kernel_rfl) ?_
    refine W.bind h fun a_186 ha_186 h => ?_
    refine W.call 0 100000 (by kernel_rfl) (version_digit_con ha_186) (by kernel_rfl) ?_
    refine W.no 0 100000 (by kernel_rfl) ?_
    refine W.cond 0 100000 h (by kernel_rfl) (fun h => ?_) (fun h => ?_)
    ·
      exact W.retT 0 100000 h (by kernel_rfl)
    ·
      refine W.needT 0 100000 h (by kernel_rfl) (fun h => ?_)
      refine W.cond 0 100000 h (by kernel_rfl) (fun h => ?_) (fun h => ?_)
      ·
        exact W.retT 0 100000 h (by kernel_rfl)
      ·
        refine W.needT 0 100000 h (by kernel_rfl) (fun h => ?_)
        refine W.bind h fun a_187 ha_187 h => ?_
        refine W.call 0 100000 (by kernel_rfl) (version_letter_con ha_187) (by kernel_rfl) ?_
        refine W.cond 0 100000 h (by kernel_rfl) (fun h => ?_) (fun h => ?_)
        ·
          refine W.needT 0 100000 h (by kernel_rfl) (fun h => ?_)
          exact W.retT 0 100000 h (by kernel_rfl)
        ·
          refine W.needT 0 100000 h (by kernel_rfl) (fun h => ?_)
          exact W.retT 0 100000 h (by kernel_rfl)

theorem cellarerref05_piece_con {s_191 : List UInt8} {r : List UInt8 × List UInt8 × List UInt8} (h : cellarerref05_piece s_191 = some r) : Con Go.Proofs.Tryd.prog 92 [AV.str s_191] [] (cellarerref05_piece_res r) (cellarerref05_piece_out r) := by
  refine W.con (by kernel_rfl) ?_
  unfold cellarerref05_piece at h
  refine W.at 0 100000 [] [0, 5] (c' := (fun (s_228 : Int) => (Cfg.mk Mode.run (headTodo Go.Proofs.Tryd.prog 92 0) (St.mk [AV.str s_191, jj, jj, jj, jj, AV.int IntKind.i64 s_228, jj, jj, jj, jj, jj, jj, jj, jj, jj, jj, jj, jj, jj, jj, jj, jj, jj, jj, jj, jj, jj, jj, jj, jj, jj, jj, jj, jj, jj, jj, jj, jj, jj, jj, jj, jj, jj, jj, jj, jj, jj, jj, jj, jj, jj, jj, jj, jj, jj] [] (0 : Nat)))) ((0 : Int))) (by kernel_rfl) ?_
  refine W.loop (fun (s_228 : Int) => (Cfg.mk Mode.run (headTodo Go.Proofs.Tryd.prog 92 0) (St.mk [AV.str s_191, jj, jj, jj, jj, AV.int IntKind.i64 s_228, jj, jj, jj, jj, jj, jj, jj, jj, jj, jj, jj, jj, jj, jj, jj, jj, jj, jj, jj, jj, jj, jj, jj, jj, jj, jj, jj, jj, jj, jj, jj, jj, jj, jj, jj, jj, jj, jj, jj, jj, jj, jj, jj, jj, jj, jj, jj, jj, jj] [] (0 : Nat)))) (fun t_199 => Walk Go.Proofs.Tryd.prog 92 (Cfg.mk Mode.run ((headTodo Go.Proofs.Tryd.prog 92 0).drop 3) (St.mk [AV.str s_191, jj, jj, jj, jj, AV.int IntKind.i64 t_199, jj, jj, jj, jj, jj, jj, jj, jj, jj, jj, jj, jj, jj, jj, jj, jj, jj, jj, jj, jj, jj, jj, jj, jj, jj, jj, jj, jj, jj, jj, jj, jj, jj, jj, jj, jj, jj, jj, jj, jj, jj, jj, jj, jj, jj, jj, jj, jj, jj] [] (0 : Nat))) (cellarerref05_piece_res r) (cellarerref05_piece_out r)) h (fun t_199 h => ?_) (fun s_228 x221 h221 K221 => ?_)
  ·
    refine W.at 0 100000 [] [0, 5, 6] (c' := (fun (s_229 : Int) => (Cfg.mk Mode.run (headTodo Go.Proofs.Tryd.prog 92 1) (St.mk [AV.str s_191, jj, jj, jj, jj, AV.int IntKind.i64 t_199, AV.int IntKind.i64 s_229, jj, jj, jj, jj, jj, jj, jj, jj, jj, jj, jj, jj, jj, jj, jj, jj, jj, jj, jj, jj, jj, jj, jj, jj, jj, jj, jj, jj, jj, jj, jj, jj, jj, jj, jj, jj, jj, jj, jj, jj, jj, jj, jj, jj, jj, jj, jj, jj] [] (0 : Nat)))) (t_199)) (by kernel_rfl) ?_
    refine W.loop (fun (s_229 : Int) => (Cfg.mk Mode.run (headTodo Go.Proofs.Tryd.prog 92 1) (St.mk [AV.str s_191, jj, jj, jj, jj, AV.int IntKind.i64 t_199, AV.int IntKind.i64 s_229, jj, jj, jj, jj, jj, jj, jj, jj, jj, jj, jj, jj, jj, jj, jj, jj, jj, jj, jj, jj, jj, jj, jj, jj, jj, jj, jj, jj, jj, jj, jj, jj, jj, jj, jj, jj, jj, jj, jj, jj, jj, jj, jj, jj, jj, jj, jj, jj] [] (0 : Nat)))) (fun t_208 => Walk Go.Proofs.Tryd.prog 92 (Cfg.mk Mode.run ((headTodo Go.Proofs.Tryd.prog 92 1).drop 3) (St.mk [AV.str s_191, jj, jj, jj, jj, AV.int IntKind.i64 t_199, AV.int IntKind.i64 t_208, jj, jj, jj, jj, jj, jj, jj, jj, jj, jj, jj, jj, jj, jj, jj, jj, jj, jj, jj, jj, jj, jj, jj, jj, jj, jj, jj, jj, jj, jj, jj, jj, jj, jj, jj, jj, jj, jj, jj, jj, jj, jj, jj, jj, jj, jj, jj, jj] [] (0 : Nat))) (cellarerref05_piece_res r) (cellarerref05_piece_out r)) h (fun t_208 h => ?_) (fun s_229 x220 h220 K220 => ?_)
    ·
      refine W.needT 0 100000 h (by kernel_rfl) (fun h => ?_)
      refine W.at 0 100000 [] [0, 5, 6, 7] (c' := (fun (s_230 : List UInt8) => (Cfg.mk Mode.run (headTodo Go.Proofs.Tryd.prog 92 2) (St.mk [AV.str s_191, jj, jj, jj, jj, AV.int IntKind.i64 t_199, AV.int IntKind.i64 t_208, AV.str s_230, jj, jj, jj, jj, jj, jj, jj, jj, jj, jj, jj, jj, jj, jj, jj, jj, jj, jj, jj, jj, jj, jj, jj, jj, jj, jj, jj, jj, jj, jj, jj, jj, jj, jj, jj, jj, jj, jj, jj, jj, jj, jj, jj, jj, jj, jj, jj] [] (0 : Nat)))) (List.drop (Int.toNat t_199) (List.take (Int.toNat t_208) s_191))) (by kernel_rfl) ?_
      refine W.loop (fun (s_230 : List UInt8) => (Cfg.mk Mode.run (headTodo Go.Proofs.Tryd.prog 92 2) (St.mk [AV.str s_191, jj, jj, jj, jj, AV.int IntKind.i64 t_199, AV.int IntKind.i64 t_208, AV.str s_230, jj, jj, jj, jj, jj, jj, jj, jj, jj, jj, jj, jj, jj, jj, jj, jj, jj, jj, jj, jj, jj, jj, jj, jj, jj, jj, jj, jj, jj, jj, jj, jj, jj, jj, jj, jj, jj, jj, jj, jj, jj, jj, jj, jj, jj, jj, jj] [] (0 : Nat)))) (fun t_217 => Walk Go.Proofs.Tryd.prog 92 (Cfg.mk Mode.run ((headTodo Go.Proofs.Tryd.prog 92 2).drop 3) (St.mk [AV.str s_191, jj, jj, jj, jj, AV.int IntKind.i64 t_199, AV.int IntKind.i64 t_208, AV.str t_217, jj, jj, jj, jj, jj, jj, jj, jj, jj, jj, jj, jj, jj, jj, jj, jj, jj, jj, jj, jj, jj, jj, jj, jj, jj, jj, jj, jj, jj, jj, jj, jj, jj, jj, jj, jj, jj, jj, jj, jj, jj, jj, jj, jj, jj, jj, jj] [] (0 : Nat))) (cellarerref05_piece_res r) (cellarerref05_piece_out r)) h (fun t_217 h => ?_) (fun s_230 x219 h219 K219 => ?_)
      ·
        refine W.needT 0 100000 h (by kernel_rfl) (fun h => ?_)
        refine W.needT 0 100000 h (by kernel_rfl) (fun h => ?_)
        exact W.retT 0 100000 h (by kernel_rfl)
      · unfold cellarerref05_piece_b2 at h219
        refine W.join (fun t => (Sum.elim (fun t_213 => Walk Go.Proofs.Tryd.prog 92 (Cfg.mk Mode.run (seqTodo Go.Proofs.Tryd.prog 92 11) (St.mk [AV.str s_191, jj, jj, jj, jj, AV.int IntKind.i64 t_199, AV.int IntKind.i64 t_208, AV.str s_230, jj, jj, jj, jj, jj, jj, jj, jj, jj, jj, jj, jj, jj, jj, jj, jj, jj, jj, jj, jj, jj, jj, jj, jj, jj, jj, jj, jj, jj, jj, jj, jj, jj, jj, jj, jj, jj, jj, jj, jj, jj, jj, jj, jj, jj, jj, jj] [] (0 : Nat))) (cellarerref05_piece_res r) (cellarerref05_piece_out r)) (fun t_214 => Walk Go.Proofs.Tryd.prog 92 (Cfg.mk Mode.run ((seqTodo Go.Proofs.Tryd.prog 92 11).drop 3) (St.mk [AV.str s_191, jj, jj, jj, jj, AV.int IntKind.i64 t_199, AV.int IntKind.i64 t_208, AV.str s_230, jj, jj, jj, jj, jj, jj, jj, jj, jj, jj, jj, jj, jj, jj, jj, jj, jj, jj, jj, jj, jj, jj, jj, jj, jj, jj, jj, jj, jj, jj, jj, jj, jj, jj, jj, jj, jj, jj, jj, jj, jj, jj, jj, jj, jj, jj, jj] [] (0 : Nat))) (cellarerref05_piece_res r) (cellarerref05_piece_out r))) t) h219 (fun t h219 => ?_) (fun t216 h216 K216 => ?_)
        ·
          rcases t with t_213 | t_214
          · replace h219 := W.inl (h219)
            refine W.elimL (?_)
            refine W.needT 2 100000 h219 (by kernel_rfl) (fun h219 => ?_)
            cases h219; exact W.at 2 100000 [] [0, 5, 6, 7] (by kernel_rfl) K219
          · replace h219 := W.inr (h219)
            refine W.elimR (?_)
            cases h219; exact W.at 2 100000 [] [0, 5, 6, 7] (by kernel_rfl) K219
        · refine W.next 2 1 (by kernel_rfl) ?_
          refine W.cond 4 100000 h216 (by kernel_rfl) (fun h216 => ?_) (fun h216 => ?_)
          ·
            refine W.yes 4 100000 (by kernel_rfl) ?_
            refine W.needT 4 100000 h216 (by kernel_rfl) (fun h216 => ?_)
            refine W.yes 4 100000 (by kernel_rfl) ?_
            refine W.yes 4 100000 (by kernel_rfl) ?_
            refine W.cond 4 100000 h216 (by kernel_rfl) (fun h216 => ?_) (fun h216 => ?_)
            ·
              cases h216; exact W.at 4 100000 [] [0, 5, 6, 7] (by kernel_rfl) K216
            ·
              cases h216; exact W.at 4 100000 [] [0, 5, 6, 7] (by kernel_rfl) K216
          ·
            refine W.no 4 100000 (by kernel_rfl) ?_
            refine W.no 4 100000 (by kernel_rfl) ?_
            refine W.no 4 100000 (by kernel_rfl) ?_
            refine W.no 4 100000 (by kernel_rfl) ?_
            cases h216; exact W.at 4 100000 [] [0, 5, 6, 7] (by kernel_rfl) K216
    · unfold cellarerref05_piece_b1 at h220
      refine W.join (fun t => (Sum.elim (fun t_204 => Walk Go.Proofs.Tryd.prog 92 (Cfg.mk Mode.run (seqTodo Go.Proofs.Tryd.prog 92 7) (St.mk [AV.str s_191, jj, jj, jj, jj, AV.int IntKind.i64 t_199, AV.int IntKind.i64 s_229, jj, jj, jj, jj, jj, jj, jj, jj, jj, jj, jj, jj, jj, jj, jj, jj, jj, jj, jj, jj, jj, jj, jj, jj, jj, jj, jj, jj, jj, jj, jj, jj, jj, jj, jj, jj, jj, jj, jj, jj, jj, jj, jj, jj, jj, jj, jj, jj] [] (0 : Nat))) (cellarerref05_piece_res r) (cellarerref05_piece_out r)) (fun t_205 => Walk Go.Proofs.Tryd.prog 92 (Cfg.mk Mode.run ((seqTodo Go.Proofs.Tryd.prog 92 7).drop 3) (St.mk [AV.str s_191, jj, jj, jj, jj, AV.int IntKind.i64 t_199, AV.int IntKind.i64 s_229, jj, jj, jj, jj, jj, jj, jj, jj, jj, jj, jj, jj, jj, jj, jj, jj, jj, jj, jj, jj, jj, jj, jj, jj, jj, jj, jj, jj, jj, jj, jj, jj, jj, jj, jj, jj, jj, jj, jj, jj, jj, jj, jj, jj, jj, jj, jj, jj] [] (0 : Nat))) (cellarerref05_piece_res r) (cellarerref05_piece_out r))) t) h220 (fun t h220 => ?_) (fun t207 h207 K207 => ?_)
      ·
        rcases t with t_204 | t_205
        · replace h220 := W.inl (h220)
          refine W.elimL (?_)
          cases h220; exact W.at 2 100000 [] [0, 5, 6] (by kernel_rfl) K220
        · replace h220 := W.inr (h220)
          refine W.elimR (?_)
          cases h220; exact W.at 2 100000 [] [0, 5, 6] (by kernel_rfl) K220
      · refine W.next 2 1 (by kernel_rfl) ?_
        refine W.cond 4 100000 h207 (by kernel_rfl) (fun h207 => ?_) (fun h207 => ?_)
        ·
          refine W.yes 4 100000 (by kernel_rfl) ?_
          refine W.yes 4 100000 (by kernel_rfl) ?_
          refine W.needT 4 100000 h207 (by kernel_rfl) (fun h207 => ?_)
          refine W.yes 4 100000 (by kernel_rfl) ?_
          refine W.bind h207 fun a_203 ha_203 h207 => ?_
          refine W.call 4 100000 (by kernel_rfl) (cellarerref05_Digit_con ha_203) (by kernel_rfl) ?_
          refine W.yes 4 100000 (by kernel_rfl) ?_
          refine W.cond 4 100000 h207 (by kernel_rfl) (fun h207 => ?_) (fun h207 => ?_)
          ·
            cases h207; exact W.at 4 100000 [] [0, 5, 6] (by kernel_rfl) K207
          ·
            cases h207; exact W.at 4 100000 [] [0, 5, 6] (by kernel_rfl) K207
        ·
          refine W.no 4 100000 (by kernel_rfl) ?_
          refine W.no 4 100000 (by kernel_rfl) ?_
          refine W.no 4 100000 (by kernel_rfl) ?_
          refine W.no 4 100000 (by kernel_rfl) ?_
          refine W.no 4 100000 (by kernel_rfl) ?_
          cases h207; exact W.at 4 100000 [] [0, 5, 6] (by kernel_rfl) K207
  · unfold cellarerref05_piece_b0 at h221
    refine W.join (fun t => (Sum.elim (fun t_195 => Walk Go.Proofs.Tryd.prog 92 (Cfg.mk Mode.run (seqTodo Go.Proofs.Tryd.prog 92 3) (St.mk [AV.str s_191, jj, jj, jj, jj, AV.int IntKind.i64 s_228, jj, jj, jj, jj, jj, jj, jj, jj, jj, jj, jj, jj, jj, jj, jj, jj, jj, jj, jj, jj, jj, jj, jj, jj, jj, jj, jj, jj, jj, jj, jj, jj, jj, jj, jj, jj, jj, jj, jj, jj, jj, jj, jj, jj, jj, jj, jj, jj, jj] [] (0 : Nat))) (cellarerref05_piece_res r) (cellarerref05_piece_out r)) (fun t_196 => Walk Go.Proofs.Tryd.prog 92 (Cfg.mk Mode.run ((seqTodo Go.Proofs.Tryd.prog 92 3).drop 3) (St.mk [AV.str s_191, jj, jj, jj, jj, AV.int IntKind.i64 s_228, jj, jj, jj, jj, jj, jj, jj, jj, jj, jj, jj, jj, jj, jj, jj, jj, jj, jj, jj, jj, jj, jj, jj, jj, jj, jj, jj, jj, jj, jj, jj, jj, jj, jj, jj, jj, jj, jj, jj, jj, jj, jj, jj, jj, jj, jj, jj, jj, jj] [] (0 : Nat))) (cellarerref05_piece_res r) (cellarerref05_piece_out r))) t) h221 (fun t h221 => ?_) (fun t198 h198 K198 => ?_)
    ·
      rcases t with t_195 | t_196
      · replace h221 := W.inl (h221)
        refine W.elimL (?_)
        cases h221; exact W.at 2 100000 [] [0, 5] (by kernel_rfl) K221
      · replace h221 := W.inr (h221)
        refine W.elimR (?_)
        cases h221; exact W.at 2 100000 [] [0, 5] (by kernel_rfl) K221
    · refine W.next 2 1 (by kernel_rfl) ?_
      refine W.cond 4 100000 h198 (by kernel_rfl) (fun h198 => ?_) (fun h198 => ?_)
      ·
        refine W.yes 4 100000 (by kernel_rfl) ?_
        refine W.yes 4 100000 (by kernel_rfl) ?_
        refine W.needT 4 100000 h198 (by kernel_rfl) (fun h198 => ?_)
        refine W.yes 4 100000 (by kernel_rfl) ?_
        refine W.bind h198 fun a_194 ha_194 h198 => ?_
        refine W.call 4 100000 (by kernel_rfl) (cellarerref05_Digit_con ha_194) (by kernel_rfl) ?_
        refine W.yes 4 100000 (by kernel_rfl) ?_
        refine W.yes 4 100000 (by kernel_rfl) ?_
        refine W.cond 4 100000 h198 (by kernel_rfl) (fun h198 => ?_) (fun h198 => ?_)
        ·
          cases h198; exact W.at 4 100000 [] [0, 5] (by kernel_rfl) K198
        ·
          cases h198; exact W.at 4 100000 [] [0, 5] (by kernel_rfl) K198
      ·
        refine W.no 4 100000 (by kernel_rfl) ?_
        refine W.no 4 100000 (by kernel_rfl) ?_
        refine W.no 4 100000 (by kernel_rfl) ?_
        refine W.no 4 100000 (by kernel_rfl) ?_
        refine W.no 4 100000 (by kernel_rfl) ?_
        refine W.no 4 100000 (by kernel_rfl) ?_
        cases h198; exact W.at 4 100000 [] [0, 5] (by kernel_rfl) K198

theorem cellarerref05_numbers_con {a_233 : List UInt8} {b_234 : List UInt8} {r : Int} (h : cellarerref05_numbers a_233 b_234 = some r) : Con Go.Proofs.Tryd.prog 94 [AV.str a_233, AV.str b_234] [] (cellarerref05_numbers_res r) (cellarerref05_numbers_out r) := by
  refine W.con (by kernel_rfl) ?_
  unfold cellarerref05_numbers at h
  refine W.cond 0 100000 h (by kernel_rfl) (fun h => ?_) (fun h => ?_)
  ·
    refine W.yes 0 100000 (by kernel_rfl) ?_
    refine W.yes 0 100000 (by kernel_rfl) ?_
    refine W.yes 0 100000 (by kernel_rfl) ?_
    refine W.yes 0 100000 (by kernel_rfl) ?_
    refine W.yes 0 100000 (by kernel_rfl) ?_
    refine W.yes 0 100000 (by kernel_rfl) ?_
    refine W.yes 0 100000 (by kernel_rfl) ?_
    refine W.yes 0 100000 (by kernel_rfl) ?_
    exact W.retT 0 100000 h (by kernel_rfl)
  ·
    refine W.no 0 100000 (by kernel_rfl) ?_
    refine W.no 0 100000 (by kernel_rfl) ?_
    refine W.no 0 100000 (by kernel_rfl) ?_
    refine W.no 0 100000 (by kernel_rfl) ?_
    refine W.no 0 100000 (by kernel_rfl) ?_
    refine W.cond 0 100000 h (by kernel_rfl) (fun h => ?_) (fun h => ?_)
    ·
      refine W.yes 0 100000 (by kernel_rfl) ?_
      refine W.yes 0 100000 (by kernel_rfl) ?_
      refine W.no 0 100000 (by kernel_rfl) ?_
      refine W.yes 0 100000 (by kernel_rfl) ?_
      refine W.no 0 100000 (by kernel_rfl) ?_
      refine W.cond 0 100000 h (by kernel_rfl) (fun h => ?_) (fun h => ?_)
      ·
        exact W.retT 0 100000 h (by kernel_rfl)
      ·
        refine W.cond 0 100000 h (by kernel_rfl) (fun h => ?_) (fun h => ?_)
        ·
          exact W.retT 0 100000 h (by kernel_rfl)
        ·
          exact W.retT 0 100000 h (by kernel_rfl)
    ·
      refine W.no 0 100000 (by kernel_rfl) ?_
      refine W.no 0 100000 (by kernel_rfl) ?_
      refine W.no 0 100000 (by kernel_rfl) ?_
      refine W.no 0 100000 (by kernel_rfl) ?_
      refine W.no 0 100000 (by kernel_rfl) ?_
      refine W.no 0 100000 (by kernel_rfl) ?_
      refine W.cond 0 100000 h (by kernel_rfl) (fun h => ?_) (fun h => ?_)
      ·
        exact W.retT 0 100000 h (by kernel_rfl)
      ·
        exact W.retT 0 100000 h (by kernel_rfl)

theorem cellarerref05_weight_con {c_238 : Int} {r : Int} (h : cellarerref05_weight c_238 = some r) : Con Go.Proofs.Tryd.prog 103 [AV.int IntKind.u8 c_238] [] (cellarerref05_weight_res r) (cellarerref05_weight_out r) := by
  refine W.con (by kernel_rfl) ?_
  unfold cellarerref05_weight at h
  refine W.cond 0 100000 h (by kernel_rfl) (fun h => ?_) (fun h => ?_)
  ·
    exact W.retT 0 100000 h (by kernel_rfl)
  ·
    refine W.bind h fun a_239 ha_239 h => ?_
    refine W.call 0 100000 (by kernel_rfl) (cellarerref05_Letter_con ha_239) (by kernel_rfl) ?_
    refine W.cond 0 100000 h (by kernel_rfl) (fun h => ?_) (fun h => ?_)
    ·
      exact W.retT 0 100000 h (by kernel_rfl)
    ·
      exact W.retT 0 100000 h (by kernel_rfl)

theorem cellarerref05_words_con {a_244 : List UInt8} {b_245 : List UInt8} {r : Int} (h : cellarerref05_words a_244 b_245 = some r) : Con Go.Proofs.Tryd.prog 93 [AV.str a_244, AV.str b_245] [] (cellarerref05_words_res r) (cellarerref05_words_out r) := by
  refine W.con (by kernel_rfl) ?_
  unfold cellarerref05_words at h
  refine W.at 0 100000 [] [0, 1, 5] (c' := (fun (s_267 : Int) => (Cfg.mk Mode.run (headTodo Go.Proofs.Tryd.prog 93 0) (St.mk [AV.str a_244, AV.str b_245, jj, jj, jj, AV.int IntKind.i64 s_267, jj, jj, jj, jj, jj, jj, jj, jj, jj, jj, jj, jj, jj, jj, jj, jj, jj, jj, jj, jj, jj, jj, jj, jj, jj, jj, jj, jj, jj, jj, jj, jj, jj, jj, jj, jj] [] (0 : Nat)))) ((0 : Int))) (by kernel_rfl) ?_
  refine W.loop (fun (s_267 : Int) => (Cfg.mk Mode.run (headTodo Go.Proofs.Tryd.prog 93 0) (St.mk [AV.str a_244, AV.str b_245, jj, jj, jj, AV.int IntKind.i64 s_267, jj, jj, jj, jj, jj, jj, jj, jj, jj, jj, jj, jj, jj, jj, jj, jj, jj, jj, jj, jj, jj, jj, jj, jj, jj, jj, jj, jj, jj, jj, jj, jj, jj, jj, jj, jj] [] (0 : Nat)))) (fun t => (Sum.elim (fun t_261 => r = (t_261)) (fun t_262 => Walk Go.Proofs.Tryd.prog 93 (Cfg.mk Mode.run ((headTodo Go.Proofs.Tryd.prog 93 0).drop 3) (St.mk [jj, jj, jj, jj, jj, jj, jj, jj, jj, jj, jj, jj, jj, jj, jj, jj, jj, jj, jj, jj, jj, jj, jj, jj, jj, jj, jj, jj, jj, jj, jj, jj, jj, jj, jj, jj, jj, jj, jj, jj, jj, jj] [] (0 : Nat))) (cellarerref05_words_res r) (cellarerref05_words_out r))) t) h (fun t h => ?_) (fun s_267 x264 h264 K264 => ?_)
  ·
    rcases t with t_261 | t_262
    · replace h := W.inl (h)
      refine W.elimL (?_)
      exact (Option.some.inj h).symm
    · replace h := W.inr (h)
      refine W.elimR (?_)
      exact W.retT 0 100000 h (by kernel_rfl)
  · unfold cellarerref05_words_b0 at h264
    refine W.join (fun t => (Sum.elim (fun t_249 => Walk Go.Proofs.Tryd.prog 93 (Cfg.mk Mode.run (seqTodo Go.Proofs.Tryd.prog 93 3) (St.mk [AV.str a_244, AV.str b_245, jj, jj, jj, AV.int IntKind.i64 s_267, jj, jj, jj, jj, jj, jj, jj, jj, jj, jj, jj, jj, jj, jj, jj, jj, jj, jj, jj, jj, jj, jj, jj, jj, jj, jj, jj, jj, jj, jj, jj, jj, jj, jj, jj, jj] [] (0 : Nat))) (cellarerref05_words_res r) (cellarerref05_words_out r)) (fun t_258 => Walk Go.Proofs.Tryd.prog 93 (Cfg.mk Mode.run ((seqTodo Go.Proofs.Tryd.prog 93 3).drop 3) (St.mk [jj, jj, jj, jj, jj, jj, jj, jj, jj, jj, jj, jj, jj, jj, jj, jj, jj, jj, jj, jj, jj, jj, jj, jj, jj, jj, jj, jj, jj, jj, jj, jj, jj, jj, jj, jj, jj, jj, jj, jj, jj, jj] [] (0 : Nat))) (cellarerref05_words_res r) (cellarerref05_words_out r))) t) h264 (fun t h264 => ?_) (fun t260 h260 K260 => ?_)
    ·
      rcases t with t_249 | t_258
      · replace h264 := W.inl (h264)
        refine W.elimL (?_)
        refine W.join (fun t_252 => Walk Go.Proofs.Tryd.prog 93 (Cfg.mk Mode.run (seqTodo Go.Proofs.Tryd.prog 93 8) (St.mk [AV.str a_244, AV.str b_245, jj, jj, jj, AV.int IntKind.i64 s_267, AV.int IntKind.i64 t_252, AV.int IntKind.i64 (0 : Int), jj, jj, jj, jj, jj, jj, jj, jj, jj, jj, jj, jj, jj, jj, jj, jj, jj, jj, jj, jj, jj, jj, jj, jj, jj, jj, jj, jj, jj, jj, jj, jj, jj, jj] [] (0 : Nat))) (cellarerref05_words_res r) (cellarerref05_words_out r)) h264 (fun t_252 h264 => ?_) (fun t258 h258 K258 => ?_)
        ·
          refine W.join (fun t_255 => Walk Go.Proofs.Tryd.prog 93 (Cfg.mk Mode.run (seqTodo Go.Proofs.Tryd.prog 93 10) (St.mk [AV.str a_244, AV.str b_245, jj, jj, jj, AV.int IntKind.i64 s_267, AV.int IntKind.i64 t_252, AV.int IntKind.i64 t_255, jj, jj, jj, jj, jj, jj, jj, jj, jj, jj, jj, jj, jj, jj, jj, jj, jj, jj, jj, jj, jj, jj, jj, jj, jj, jj, jj, jj, jj, jj, jj, jj, jj, jj] [] (0 : Nat))) (cellarerref05_words_res r) (cellarerref05_words_out r)) h264 (fun t_255 h264 => ?_) (fun t257 h257 K257 => ?_)
          ·
            refine W.cond 2 100000 h264 (by kernel_rfl) (fun h264 => ?_) (fun h264 => ?_)
            ·
              cases h264; exact W.retK 2 100000 K264 (by kernel_rfl)
            ·
              refine W.cond 2 100000 h264 (by kernel_rfl) (fun h264 => ?_) (fun h264 => ?_)
              ·
                cases h264; exact W.retK 2 100000 K264 (by kernel_rfl)
              ·
                cases h264; exact W.at 2 100000 [] [0, 1, 5] (by kernel_rfl) K264
          · refine W.next 2 1 (by kernel_rfl) ?_
            refine W.cond 6 100000 h257 (by kernel_rfl) (fun h257 => ?_) (fun h257 => ?_)
            ·
              refine W.needT 6 100000 h257 (by kernel_rfl) (fun h257 => ?_)
              refine W.bind h257 fun a_253 ha_253 h257 => ?_
              refine W.call 6 100000 (by kernel_rfl) (cellarerref05_weight_con ha_253) (by kernel_rfl) ?_
              cases h257; exact W.at 6 100000 [] [0, 1, 5, 6, 7] (by kernel_rfl) K257
            ·
              cases h257; exact W.at 6 100000 [] [0, 1, 5, 6, 7] (by kernel_rfl) K257
        · refine W.next 2 11 (by kernel_rfl) ?_
          refine W.cond 6 100000 h258 (by kernel_rfl) (fun h258 => ?_) (fun h258 => ?_)
          ·
            refine W.needT 6 100000 h258 (by kernel_rfl) (fun h258 => ?_)
            refine W.bind h258 fun a_250 ha_250 h258 => ?_
            refine W.call 6 100000 (by kernel_rfl) (cellarerref05_weight_con ha_250) (by kernel_rfl) ?_
            cases h258; exact W.at 6 100000 [] [0, 1, 5, 6, 7] (by kernel_rfl) K258
          ·
            cases h258; exact W.at 6 100000 [] [0, 1, 5, 6, 7] (by kernel_rfl) K258
      · replace h264 := W.inr (h264)
        refine W.elimR (?_)
        cases h264; exact W.at 2 100000 [] [] (by kernel_rfl) K264
    · refine W.next 2 1 (by kernel_rfl) ?_
      refine W.cond 4 100000 h260 (by kernel_rfl) (fun h260 => ?_) (fun h260 => ?_)
      ·
        refine W.yes 4 100000 (by kernel_rfl) ?_
        refine W.yes 4 100000 (by kernel_rfl) ?_
        refine W.yes 4 100000 (by kernel_rfl) ?_
        refine W.yes 4 100000 (by kernel_rfl) ?_
        refine W.yes 4 100000 (by kernel_rfl) ?_
        cases h260; exact W.at 4 100000 [] [0, 1, 5] (by kernel_rfl) K260
      ·
        refine W.no 4 100000 (by kernel_rfl) ?_
        refine W.no 4 100000 (by kernel_rfl) ?_
        refine W.no 4 100000 (by kernel_rfl) ?_
        refine W.no 4 100000 (by kernel_rfl) ?_
        refine W.cond 4 100000 h260 (by kernel_rfl) (fun h260 => ?_) (fun h260 => ?_)
        ·
          cases h260; exact W.at 4 100000 [] [0, 1, 5] (by kernel_rfl) K260
        ·
          cases h260; exact W.at 4 100000 [] [] (by kernel_rfl) K260

theorem cmp_isNaN_int__con {x_289 : Int} {r : Bool} (h : cmp_isNaN_int_ x_289 = some r) : Con Go.Proofs.Tryd.prog 88 [AV.int IntKind.i64 x_289] [] (cmp_isNaN_int__res r) (cmp_isNaN_int__out r) := by
  refine W.con (by kernel_rfl) ?_
  unfold cmp_isNaN_int_ at h
  exact W.retT 0 100000 h (by kernel_rfl)

theorem cmp_Compare_int__con {x_287 : Int} {y_288 : Int} {r : Int} (h : cmp_Compare_int_ x_287 y_288 = some r) : Con Go.Proofs.Tryd.prog 76 [AV.int IntKind.i64 x_287, AV.int IntKind.i64 y_288] [] (cmp_Compare_int__res r) (cmp_Compare_int__out r) := by
  refine W.con (by kernel_rfl) ?_
  unfold cmp_Compare_int_ at h
  refine W.bind h fun a_292 ha_292 h => ?_
  refine W.call 0 100000 (by kernel_rfl) (cmp_isNaN_int__con ha_292) (by kernel_rfl) ?_
  refine W.bind h fun a_293 ha_293 h => ?_
  refine W.call 0 100000 (by kernel_rfl) (cmp_isNaN_int__con ha_293) (by kernel_rfl) ?_
  refine W.cond 0 100000 h (by kernel_rfl) (fun h => ?_) (fun h => ?_)
  ·
    refine W.cond 0 100000 h (by kernel_rfl) (fun h => ?_) (fun h => ?_)
    ·
      exact W.retT 0 100000 h (by kernel_rfl)
    ·
      exact W.retT 0 100000 h (by kernel_rfl)
  ·
    refine W.cond 0 100000 h (by kernel_rfl) (fun h => ?_) (fun h => ?_)
    ·
      exact W.retT 0 100000 h (by kernel_rfl)
    ·
      refine W.cond 0 100000 h (by kernel_rfl) (fun h => ?_) (fun h => ?_)
      ·
        exact W.retT 0 100000 h (by kernel_rfl)
      ·
        refine W.cond 0 100000 h (by kernel_rfl) (fun h => ?_) (fun h => ?_)
        ·
          exact W.retT 0 100000 h (by kernel_rfl)
        ·
          exact W.retT 0 100000 h (by kernel_rfl)

theorem cmp_isNaN_string__con {x_309 : List UInt8} {r : Bool} (h : cmp_isNaN_string_ x_309 = some r) : Con Go.Proofs.Tryd.prog 102 [AV.str x_309] [] (cmp_isNaN_string__res r) (cmp_isNaN_string__out r) := by
  refine W.con (by kernel_rfl) ?_
  unfold cmp_isNaN_string_ at h
  exact W.retT 0 100000 h (by kernel_rfl)

theorem cmp_Compare_string__con {x_307 : List UInt8} {y_308 : List UInt8} {r : Int} (h : cmp_Compare_string_ x_307 y_308 = some r) : Con Go.Proofs.Tryd.prog 91 [AV.str x_307, AV.str y_308] [] (cmp_Compare_string__res r) (cmp_Compare_string__out r) := by
  refine W.con (by kernel_rfl) ?_
  unfold cmp_Compare_string_ at h
  refine W.bind h fun a_312 ha_312 h => ?_
  refine W.call 0 100000 (by kernel_rfl) (cmp_isNaN_string__con ha_312) (by kernel_rfl) ?_
  refine W.bind h fun a_313 ha_313 h => ?_
  refine W.call 0 100000 (by kernel_rfl) (cmp_isNaN_string__con ha_313) (by kernel_rfl) ?_
  refine W.cond 0 100000 h (by kernel_rfl) (fun h => ?_) (fun h => ?_)
  ·
    refine W.cond 0 100000 h (by kernel_rfl) (fun h => ?_) (fun h => ?_)
    ·
      exact W.retT 0 100000 h (by kernel_rfl)
    ·
      exact W.retT 0 100000 h (by kernel_rfl)
  ·
    refine W.cond 0 100000 h (by kernel_rfl) (fun h => ?_) (fun h => ?_)
    ·
      exact W.retT 0 100000 h (by kernel_rfl)
    ·
      refine W.cond 0 100000 h (by kernel_rfl) (fun h => ?_) (fun h => ?_)
      ·
        exact W.retT 0 100000 h (by kernel_rfl)
      ·
        refine W.cond 0 100000 h (by kernel_rfl) (fun h => ?_) (fun h => ?_)
        ·
          exact W.retT 0 100000 h (by kernel_rfl)
        ·
          exact W.retT 0 100000 h (by kernel_rfl)

theorem version_Order_con {a_270 : List UInt8} {b_271 : List UInt8} {r : Int} (h : version_Order a_270 b_271 = some r) : Con Go.Proofs.Tryd.prog 77 [AV.str a_270, AV.str b_271] [] (version_Order_res r) (version_Order_out r) := by
  refine W.con (by kernel_rfl) ?_
  unfold version_Order at h
  refine W.at 0 100000 [] [0, 1, 5, 6] (c' := (fun (s_328 : Int × Int) => (Cfg.mk Mode.run (headTodo Go.Proofs.Tryd.prog 77 0) (St.mk [AV.str a_270, AV.str b_271, jj, jj, jj, AV.int IntKind.i64 (Prod.fst s_328), AV.int IntKind.i64 (Prod.snd s_328), jj, jj, jj, jj, jj, jj, jj, jj, jj, jj, jj, jj, jj, jj, jj, jj, jj, jj, jj, jj, jj, jj, jj, jj, jj, jj, jj, jj, jj, jj, jj, jj, jj, jj, jj, jj, jj, jj, jj, jj, jj, jj, jj, jj, jj, jj, jj, jj, jj, jj, jj, jj, jj, jj, jj, jj, jj, jj, jj, jj, jj, jj, jj, jj, jj, jj, jj, jj, jj, jj, jj, jj, jj, jj, jj, jj, jj, jj, jj, jj, jj, jj] [] (0 : Nat)))) ((0 : Int), (0 : Int))) (by kernel_rfl) ?_
  refine W.loop (fun (s_328 : Int × Int) => (Cfg.mk Mode.run (headTodo Go.Proofs.Tryd.prog 77 0) (St.mk [AV.str a_270, AV.str b_271, jj, jj, jj, AV.int IntKind.i64 (Prod.fst s_328), AV.int IntKind.i64 (Prod.snd s_328), jj, jj, jj, jj, jj, jj, jj, jj, jj, jj, jj, jj, jj, jj, jj, jj, jj, jj, jj, jj, jj, jj, jj, jj, jj, jj, jj, jj, jj, jj, jj, jj, jj, jj, jj, jj, jj, jj, jj, jj, jj, jj, jj, jj, jj, jj, jj, jj, jj, jj, jj, jj, jj, jj, jj, jj, jj, jj, jj, jj, jj, jj, jj, jj, jj, jj, jj, jj, jj, jj, jj, jj, jj, jj, jj, jj, jj, jj, jj, jj, jj, jj] [] (0 : Nat)))) (fun t => (Sum.elim (fun t_321 => r = (t_321)) (fun t_322 => Walk Go.Proofs.Tryd.prog 77 (Cfg.mk Mode.run ((headTodo Go.Proofs.Tryd.prog 77 0).drop 3) (St.mk [jj, jj, jj, jj, jj, jj, jj, jj, jj, jj, jj, jj, jj, jj, jj, jj, jj, jj, jj, jj, jj, jj, jj, jj, jj, jj, jj, jj, jj, jj, jj, jj, jj, jj, jj, jj, jj, jj, jj, jj, jj, jj, jj, jj, jj, jj, jj, jj, jj, jj, jj, jj, jj, jj, jj, jj, jj, jj, jj, jj, jj, jj, jj, jj, jj, jj, jj, jj, jj, jj, jj, jj, jj, jj, jj, jj, jj, jj, jj, jj, jj, jj, jj, jj, jj, jj, jj, jj, jj] [] (0 : Nat))) (version_Order_res r) (version_Order_out r))) t) h (fun t h => ?_) (fun s_328 x324 h324 K324 => ?_)
  ·
    rcases t with t_321 | t_322
    · replace h := W.inl (h)
      refine W.elimL (?_)
      exact (Option.some.inj h).symm
    · replace h := W.inr (h)
      refine W.elimR (?_)
      exact W.retT 0 100000 h (by kernel_rfl)
  · unfold version_Order_b1 at h324
    refine W.join (fun t => (Sum.elim (fun t_276 => Walk Go.Proofs.Tryd.prog 77 (Cfg.mk Mode.run (seqTodo Go.Proofs.Tryd.prog 77 4) (St.mk [AV.str a_270, AV.str b_271, jj, jj, jj, AV.int IntKind.i64 (Prod.fst s_328), AV.int IntKind.i64 (Prod.snd s_328), jj, jj, jj, jj, jj, jj, jj, jj, jj, jj, jj, jj, jj, jj, jj, jj, jj, jj, jj, jj, jj, jj, jj, jj, jj, jj, jj, jj, jj, jj, jj, jj, jj, jj, jj, jj, jj, jj, jj, jj, jj, jj, jj, jj, jj, jj, jj, jj, jj, jj, jj, jj, jj, jj, jj, jj, jj, jj, jj, jj, jj, jj, jj, jj, jj, jj, jj, jj, jj, jj, jj, jj, jj, jj, jj, jj, jj, jj, jj, jj, jj, jj] [] (0 : Nat))) (version_Order_res r) (version_Order_out r)) (fun t_318 => Walk Go.Proofs.Tryd.prog 77 (Cfg.mk Mode.run ((seqTodo Go.Proofs.Tryd.prog 77 4).drop 3) (St.mk [jj, jj, jj, jj, jj, jj, jj, jj, jj, jj, jj, jj, jj, jj, jj, jj, jj, jj, jj, jj, jj, jj, jj, jj, jj, jj, jj, jj, jj, jj, jj, jj, jj, jj, jj, jj, jj, jj, jj, jj, jj, jj, jj, jj, jj, jj, jj, jj, jj, jj, jj, jj, jj, jj, jj, jj, jj, jj, jj, jj, jj, jj, jj, jj, jj, jj, jj, jj, jj, jj, jj, jj, jj, jj, jj, jj, jj, jj, jj, jj, jj, jj, jj, jj, jj, jj, jj, jj, jj] [] (0 : Nat))) (version_Order_res r) (version_Order_out r))) t) h324 (fun t h324 => ?_) (fun t320 h320 K320 => ?_)
    ·
      rcases t with t_276 | t_318
      · replace h324 := W.inl (h324)
        refine W.elimL (?_)
        refine W.at 3 100000 [] [0, 1, 5, 6] (c' := (fun (s_329 : Int × Int) => (Cfg.mk Mode.run (headTodo Go.Proofs.Tryd.prog 77 1) (St.mk [AV.str a_270, AV.str b_271, jj, jj, jj, AV.int IntKind.i64 (Prod.fst s_329), AV.int IntKind.i64 (Prod.snd s_329), jj, jj, jj, jj, jj, jj, jj, jj, jj, jj, jj, jj, jj, jj, jj, jj, jj, jj, jj, jj, jj, jj, jj, jj, jj, jj, jj, jj, jj, jj, jj, jj, jj, jj, jj, jj, jj, jj, jj, jj, jj, jj, jj, jj, jj, jj, jj, jj, jj, jj, jj, jj, jj, jj, jj, jj, jj, jj, jj, jj, jj, jj, jj, jj, jj, jj, jj, jj, jj, jj, jj, jj, jj, jj, jj, jj, jj, jj, jj, jj, jj, jj] [] (0 : Nat)))) (Prod.fst s_328, Prod.snd s_328)) (by kernel_rfl) ?_
        refine W.loop (fun (s_329 : Int × Int) => (Cfg.mk Mode.run (headTodo Go.Proofs.Tryd.prog 77 1) (St.mk [AV.str a_270, AV.str b_271, jj, jj, jj, AV.int IntKind.i64 (Prod.fst s_329), AV.int IntKind.i64 (Prod.snd s_329), jj, jj, jj, jj, jj, jj, jj, jj, jj, jj, jj, jj, jj, jj, jj, jj, jj, jj, jj, jj, jj, jj, jj, jj, jj, jj, jj, jj, jj, jj, jj, jj, jj, jj, jj, jj, jj, jj, jj, jj, jj, jj, jj, jj, jj, jj, jj, jj, jj, jj, jj, jj, jj, jj, jj, jj, jj, jj, jj, jj, jj, jj, jj, jj, jj, jj, jj, jj, jj, jj, jj, jj, jj, jj, jj, jj, jj, jj, jj, jj, jj, jj] [] (0 : Nat)))) (fun t => (Sum.elim (fun t_300 => r = (t_300)) (fun t_303 => Walk Go.Proofs.Tryd.prog 77 (Cfg.mk Mode.run ((headTodo Go.Proofs.Tryd.prog 77 1).drop 3) (St.mk [AV.str a_270, AV.str b_271, jj, jj, jj, AV.int IntKind.i64 (Prod.fst t_303), AV.int IntKind.i64 (Prod.snd t_303), jj, jj, jj, jj, jj, jj, jj, jj, jj, jj, jj, jj, jj, jj, jj, jj, jj, jj, jj, jj, jj, jj, jj, jj, jj, jj, jj, jj, jj, jj, jj, jj, jj, jj, jj, jj, jj, jj, jj, jj, jj, jj, jj, jj, jj, jj, jj, jj, jj, jj, jj, jj, jj, jj, jj, jj, jj, jj, jj, jj, jj, jj, jj, jj, jj, jj, jj, jj, jj, jj, jj, jj, jj, jj, jj, jj, jj, jj, jj, jj, jj, jj] [] (0 : Nat))) (version_Order_res r) (version_Order_out r))) t) h324 (fun t h324 => ?_) (fun s_329 x318 h318 K318 => ?_)
        ·
          rcases t with t_300 | t_303
          · replace h324 := W.inl (h324)
            refine W.elimL (?_)
            cases h324; exact K324
          · replace h324 := W.inr (h324)
            refine W.elimR (?_)
            refine W.bind h324 fun a_304 ha_304 h324 => ?_
            refine W.call 3 100000 (by kernel_rfl) (version_number_con ha_304) (by kernel_rfl) ?_
            refine W.bind h324 fun a_305 ha_305 h324 => ?_
            refine W.call 3 100000 (by kernel_rfl) (version_number_con ha_305) (by kernel_rfl) ?_
            refine W.cond 3 100000 h324 (by kernel_rfl) (fun h324 => ?_) (fun h324 => ?_)
            ·
              cases h324; exact W.at 3 100000 [] [0, 1, 5, 6] (by kernel_rfl) K324
            ·
              refine W.bind h324 fun a_306 ha_306 h324 => ?_
              refine W.call 3 100000 (by kernel_rfl) (cmp_Compare_int__con ha_306) (by kernel_rfl) ?_
              refine W.cond 3 100000 h324 (by kernel_rfl) (fun h324 => ?_) (fun h324 => ?_)
              ·
                cases h324; exact W.retK 3 100000 K324 (by kernel_rfl)
              ·
                refine W.bind h324 fun a_316 ha_316 h324 => ?_
                refine W.call 3 100000 (by kernel_rfl) (cmp_Compare_string__con ha_316) (by kernel_rfl) ?_
                cases h324; exact W.retK 3 100000 K324 (by kernel_rfl)
        · unfold version_Order_b0 at h318
          refine W.join (fun t => (Sum.elim (fun t_284 => Walk Go.Proofs.Tryd.prog 77 (Cfg.mk Mode.run (seqTodo Go.Proofs.Tryd.prog 77 7) (St.mk [AV.str a_270, AV.str b_271, jj, jj, jj, AV.int IntKind.i64 (Prod.fst s_329), AV.int IntKind.i64 (Prod.snd s_329), jj, jj, jj, jj, jj, jj, jj, jj, jj, jj, jj, jj, jj, jj, jj, jj, jj, jj, jj, jj, jj, jj, jj, jj, jj, jj, jj, jj, jj, jj, jj, jj, jj, jj, jj, jj, jj, jj, jj, jj, jj, jj, jj, jj, jj, jj, jj, jj, jj, jj, jj, jj, jj, jj, jj, jj, jj, jj, jj, jj, jj, jj, jj, jj, jj, jj, jj, jj, jj, jj, jj, jj, jj, jj, jj, jj, jj, jj, jj, jj, jj, jj] [] (0 : Nat))) (version_Order_res r) (version_Order_out r)) (fun t_297 => Walk Go.Proofs.Tryd.prog 77 (Cfg.mk Mode.run ((seqTodo Go.Proofs.Tryd.prog 77 7).drop 3) (St.mk [AV.str a_270, AV.str b_271, jj, jj, jj, AV.int IntKind.i64 (Prod.fst s_329), AV.int IntKind.i64 (Prod.snd s_329), jj, jj, jj, jj, jj, jj, jj, jj, jj, jj, jj, jj, jj, jj, jj, jj, jj, jj, jj, jj, jj, jj, jj, jj, jj, jj, jj, jj, jj, jj, jj, jj, jj, jj, jj, jj, jj, jj, jj, jj, jj, jj, jj, jj, jj, jj, jj, jj, jj, jj, jj, jj, jj, jj, jj, jj, jj, jj, jj, jj, jj, jj, jj, jj, jj, jj, jj, jj, jj, jj, jj, jj, jj, jj, jj, jj, jj, jj, jj, jj, jj, jj] [] (0 : Nat))) (version_Order_res r) (version_Order_out r))) t) h318 (fun t h318 => ?_) (fun t299 h299 K299 => ?_)
          ·
            rcases t with t_284 | t_297
            · replace h318 := W.inl (h318)
              refine W.elimL (?_)
              refine W.bind h318 fun a_285 ha_285 h318 => ?_
              refine W.call 7 100000 (by kernel_rfl) (version_weight_con ha_285) (by kernel_rfl) ?_
              refine W.bind h318 fun a_286 ha_286 h318 => ?_
              refine W.call 7 100000 (by kernel_rfl) (version_weight_con ha_286) (by kernel_rfl) ?_
              refine W.bind h318 fun a_296 ha_296 h318 => ?_
              refine W.call 7 100000 (by kernel_rfl) (cmp_Compare_int__con ha_296) (by kernel_rfl) ?_
              refine W.cond 7 100000 h318 (by kernel_rfl) (fun h318 => ?_) (fun h318 => ?_)
              ·
                cases h318; exact W.retK 7 100000 K318 (by kernel_rfl)
              ·
                cases h318; exact W.at 7 100000 [] [0, 1, 5, 6] (by kernel_rfl) K318
            · replace h318 := W.inr (h318)
              refine W.elimR (?_)
              cases h318; exact W.at 7 100000 [] [0, 1, 5, 6] (by kernel_rfl) K318
          · refine W.next 7 1 (by kernel_rfl) ?_
            refine W.cond 9 100000 h299 (by kernel_rfl) (fun h299 => ?_) (fun h299 => ?_)
            ·
              refine W.yes 9 100000 (by kernel_rfl) ?_
              refine W.yes 9 100000 (by kernel_rfl) ?_
              refine W.needT 9 100000 h299 (by kernel_rfl) (fun h299 => ?_)
              refine W.yes 9 100000 (by kernel_rfl) ?_
              refine W.bind h299 fun a_281 ha_281 h299 => ?_
              refine W.call 9 100000 (by kernel_rfl) (version_digit_con ha_281) (by kernel_rfl) ?_
              refine W.yes 9 100000 (by kernel_rfl) ?_
              refine W.yes 9 100000 (by kernel_rfl) ?_
              refine W.cond 9 100000 h299 (by kernel_rfl) (fun h299 => ?_) (fun h299 => ?_)
              ·
                refine W.yes 9 100000 (by kernel_rfl) ?_
                refine W.yes 9 100000 (by kernel_rfl) ?_
                refine W.yes 9 100000 (by kernel_rfl) ?_
                refine W.yes 9 100000 (by kernel_rfl) ?_
                refine W.yes 9 100000 (by kernel_rfl) ?_
                refine W.yes 9 100000 (by kernel_rfl) ?_
                refine W.yes 9 100000 (by kernel_rfl) ?_
                cases h299; exact W.at 9 100000 [] [0, 1, 5, 6] (by kernel_rfl) K299
              ·
                refine W.no 9 100000 (by kernel_rfl) ?_
                refine W.no 9 100000 (by kernel_rfl) ?_
                refine W.no 9 100000 (by kernel_rfl) ?_
                refine W.no 9 100000 (by kernel_rfl) ?_
                refine W.cond 9 100000 h299 (by kernel_rfl) (fun h299 => ?_) (fun h299 => ?_)
                ·
                  refine W.yes 9 100000 (by kernel_rfl) ?_
                  refine W.yes 9 100000 (by kernel_rfl) ?_
                  refine W.needT 9 100000 h299 (by kernel_rfl) (fun h299 => ?_)
                  refine W.yes 9 100000 (by kernel_rfl) ?_
                  refine W.bind h299 fun a_282 ha_282 h299 => ?_
                  refine W.call 9 100000 (by kernel_rfl) (version_digit_con ha_282) (by kernel_rfl) ?_
                  refine W.yes 9 100000 (by kernel_rfl) ?_
                  refine W.no 9 100000 (by kernel_rfl) ?_
                  refine W.yes 9 100000 (by kernel_rfl) ?_
                  refine W.no 9 100000 (by kernel_rfl) ?_
                  refine W.cond 9 100000 h299 (by kernel_rfl) (fun h299 => ?_) (fun h299 => ?_)
                  ·
                    cases h299; exact W.at 9 100000 [] [0, 1, 5, 6] (by kernel_rfl) K299
                  ·
                    cases h299; exact W.at 9 100000 [] [0, 1, 5, 6] (by kernel_rfl) K299
                ·
                  refine W.no 9 100000 (by kernel_rfl) ?_
                  refine W.no 9 100000 (by kernel_rfl) ?_
                  refine W.no 9 100000 (by kernel_rfl) ?_
                  refine W.no 9 100000 (by kernel_rfl) ?_
                  refine W.no 9 100000 (by kernel_rfl) ?_
                  refine W.no 9 100000 (by kernel_rfl) ?_
                  refine W.no 9 100000 (by kernel_rfl) ?_
                  refine W.no 9 100000 (by kernel_rfl) ?_
                  cases h299; exact W.at 9 100000 [] [0, 1, 5, 6] (by kernel_rfl) K299
            ·
              refine W.no 9 100000 (by kernel_rfl) ?_
              refine W.no 9 100000 (by kernel_rfl) ?_
              refine W.no 9 100000 (by kernel_rfl) ?_
              refine W.no 9 100000 (by kernel_rfl) ?_
              refine W.no 9 100000 (by kernel_rfl) ?_
              refine W.no 9 100000 (by kernel_rfl) ?_
              refine W.no 9 100000 (by kernel_rfl) ?_
              refine W.no 9 100000 (by kernel_rfl) ?_
              refine W.no 9 100000 (by kernel_rfl) ?_
              refine W.no 9 100000 (by kernel_rfl) ?_
              refine W.cond 9 100000 h299 (by kernel_rfl) (fun h299 => ?_) (fun h299 => ?_)
              ·
                refine W.yes 9 100000 (by kernel_rfl) ?_
                refine W.yes 9 100000 (by kernel_rfl) ?_
                refine W.needT 9 100000 h299 (by kernel_rfl) (fun h299 => ?_)
                refine W.yes 9 100000 (by kernel_rfl) ?_
                refine W.bind h299 fun a_283 ha_283 h299 => ?_
                refine W.call 9 100000 (by kernel_rfl) (version_digit_con ha_283) (by kernel_rfl) ?_
                refine W.yes 9 100000 (by kernel_rfl) ?_
                refine W.no 9 100000 (by kernel_rfl) ?_
                refine W.yes 9 100000 (by kernel_rfl) ?_
                refine W.no 9 100000 (by kernel_rfl) ?_
                refine W.cond 9 100000 h299 (by kernel_rfl) (fun h299 => ?_) (fun h299 => ?_)
                ·
                  cases h299; exact W.at 9 100000 [] [0, 1, 5, 6] (by kernel_rfl) K299
                ·
                  cases h299; exact W.at 9 100000 [] [0, 1, 5, 6] (by kernel_rfl) K299
              ·
                refine W.no 9 100000 (by kernel_rfl) ?_
                refine W.no 9 100000 (by kernel_rfl) ?_
                refine W.no 9 100000 (by kernel_rfl) ?_
                refine W.no 9 100000 (by kernel_rfl) ?_
                refine W.no 9 100000 (by kernel_rfl) ?_
                refine W.no 9 100000 (by kernel_rfl) ?_
                refine W.no 9 100000 (by kernel_rfl) ?_
                refine W.no 9 100000 (by kernel_rfl) ?_
                cases h299; exact W.at 9 100000 [] [0, 1, 5, 6] (by kernel_rfl) K299
      · replace h324 := W.inr (h324)
        refine W.elimR (?_)
        cases h324; exact W.at 3 100000 [] [] (by kernel_rfl) K324
    · refine W.next 3 1 (by kernel_rfl) ?_
      refine W.cond 5 100000 h320 (by kernel_rfl) (fun h320 => ?_) (fun h320 => ?_)
      ·
        refine W.yes 5 100000 (by kernel_rfl) ?_
        refine W.yes 5 100000 (by kernel_rfl) ?_
        refine W.yes 5 100000 (by kernel_rfl) ?_
        refine W.yes 5 100000 (by kernel_rfl) ?_
        refine W.yes 5 100000 (by kernel_rfl) ?_
        cases h320; exact W.at 5 100000 [] [0, 1, 5, 6] (by kernel_rfl) K320
      ·
        refine W.no 5 100000 (by kernel_rfl) ?_
        refine W.no 5 100000 (by kernel_rfl) ?_
        refine W.no 5 100000 (by kernel_rfl) ?_
        refine W.no 5 100000 (by kernel_rfl) ?_
        refine W.cond 5 100000 h320 (by kernel_rfl) (fun h320 => ?_) (fun h320 => ?_)
        ·
          cases h320; exact W.at 5 100000 [] [0, 1, 5, 6] (by kernel_rfl) K320
        ·
          cases h320; exact W.at 5 100000 [] [] (by kernel_rfl) K320

theorem cellarerref05_Order_con {a_332 : List UInt8} {b_333 : List UInt8} {r : Int} (h : cellarerref05_Order a_332 b_333 = some r) : Con Go.Proofs.Tryd.prog 78 [AV.str a_332, AV.str b_333] [] (cellarerref05_Order_res r) (cellarerref05_Order_out r) := by
  refine W.con (by kernel_rfl) ?_
  unfold cellarerref05_Order at h
  refine W.at 0 100000 [] [0, 1] (c' := (fun (s_350 : List UInt8 × List UInt8) => (Cfg.mk Mode.run (headTodo Go.Proofs.Tryd.prog 78 0) (St.mk [AV.str (Prod.fst s_350), AV.str (Prod.snd s_350), jj, jj, jj, jj, jj, jj, jj, jj, jj, jj, jj, jj, jj, jj, jj, jj, jj, jj, jj, jj, jj, jj, jj, jj, jj, jj, jj, jj, jj, jj, jj, jj, jj, jj, jj, jj, jj, jj, jj, jj, jj, jj, jj] [] (0 : Nat)))) (a_332, b_333)) (by kernel_rfl) ?_
  refine W.loop (fun (s_350 : List UInt8 × List UInt8) => (Cfg.mk Mode.run (headTodo Go.Proofs.Tryd.prog 78 0) (St.mk [AV.str (Prod.fst s_350), AV.str (Prod.snd s_350), jj, jj, jj, jj, jj, jj, jj, jj, jj, jj, jj, jj, jj, jj, jj, jj, jj, jj, jj, jj, jj, jj, jj, jj, jj, jj, jj, jj, jj, jj, jj, jj, jj, jj, jj, jj, jj, jj, jj, jj, jj, jj, jj] [] (0 : Nat)))) (fun t => (Sum.elim (fun t_344 => r = (t_344)) (fun t_345 => Walk Go.Proofs.Tryd.prog 78 (Cfg.mk Mode.run ((headTodo Go.Proofs.Tryd.prog 78 0).drop 3) (St.mk [jj, jj, jj, jj, jj, jj, jj, jj, jj, jj, jj, jj, jj, jj, jj, jj, jj, jj, jj, jj, jj, jj, jj, jj, jj, jj, jj, jj, jj, jj, jj, jj, jj, jj, jj, jj, jj, jj, jj, jj, jj, jj, jj, jj, jj] [] (0 : Nat))) (cellarerref05_Order_res r) (cellarerref05_Order_out r))) t) h (fun t h => ?_) (fun s_350 x347 h347 K347 => ?_)
  ·
    rcases t with t_344 | t_345
    · replace h := W.inl (h)
      refine W.elimL (?_)
      exact (Option.some.inj h).symm
    · replace h := W.inr (h)
      refine W.elimR (?_)
      exact W.retT 0 100000 h (by kernel_rfl)
  · unfold cellarerref05_Order_b0 at h347
    refine W.join (fun t => (Sum.elim (fun t_336 => Walk Go.Proofs.Tryd.prog 78 (Cfg.mk Mode.run (seqTodo Go.Proofs.Tryd.prog 78 2) (St.mk [AV.str (Prod.fst s_350), AV.str (Prod.snd s_350), jj, jj, jj, jj, jj, jj, jj, jj, jj, jj, jj, jj, jj, jj, jj, jj, jj, jj, jj, jj, jj, jj, jj, jj, jj, jj, jj, jj, jj, jj, jj, jj, jj, jj, jj, jj, jj, jj, jj, jj, jj, jj, jj] [] (0 : Nat))) (cellarerref05_Order_res r) (cellarerref05_Order_out r)) (fun t_341 => Walk Go.Proofs.Tryd.prog 78 (Cfg.mk Mode.run ((seqTodo Go.Proofs.Tryd.prog 78 2).drop 3) (St.mk [jj, jj, jj, jj, jj, jj, jj, jj, jj, jj, jj, jj, jj, jj, jj, jj, jj, jj, jj, jj, jj, jj, jj, jj, jj, jj, jj, jj, jj, jj, jj, jj, jj, jj, jj, jj, jj, jj, jj, jj, jj, jj, jj, jj, jj] [] (0 : Nat))) (cellarerref05_Order_res r) (cellarerref05_Order_out r))) t) h347 (fun t h347 => ?_) (fun t343 h343 K343 => ?_)
    ·
      rcases t with t_336 | t_341
      · replace h347 := W.inl (h347)
        refine W.elimL (?_)
        refine W.bind h347 fun a_337 ha_337 h347 => ?_
        refine W.call 2 100000 (by kernel_rfl) (cellarerref05_piece_con ha_337) (by kernel_rfl) ?_
        refine W.bind h347 fun a_338 ha_338 h347 => ?_
        refine W.call 2 100000 (by kernel_rfl) (cellarerref05_piece_con ha_338) (by kernel_rfl) ?_
        refine W.bind h347 fun a_339 ha_339 h347 => ?_
        refine W.call 2 100000 (by kernel_rfl) (cellarerref05_words_con ha_339) (by kernel_rfl) ?_
        refine W.cond 2 100000 h347 (by kernel_rfl) (fun h347 => ?_) (fun h347 => ?_)
        ·
          cases h347; exact W.retK 2 100000 K347 (by kernel_rfl)
        ·
          refine W.bind h347 fun a_340 ha_340 h347 => ?_
          refine W.call 2 100000 (by kernel_rfl) (cellarerref05_numbers_con ha_340) (by kernel_rfl) ?_
          refine W.cond 2 100000 h347 (by kernel_rfl) (fun h347 => ?_) (fun h347 => ?_)
          ·
            cases h347; exact W.retK 2 100000 K347 (by kernel_rfl)
          ·
            cases h347; exact W.at 2 100000 [] [0, 1] (by kernel_rfl) K347
      · replace h347 := W.inr (h347)
        refine W.elimR (?_)
        cases h347; exact W.at 2 100000 [] [] (by kernel_rfl) K347
    · refine W.next 2 1 (by kernel_rfl) ?_
      refine W.cond 4 100000 h343 (by kernel_rfl) (fun h343 => ?_) (fun h343 => ?_)
      ·
        refine W.yes 4 100000 (by kernel_rfl) ?_
        refine W.yes 4 100000 (by kernel_rfl) ?_
        refine W.yes 4 100000 (by kernel_rfl) ?_
        cases h343; exact W.at 4 100000 [] [0, 1] (by kernel_rfl) K343
      ·
        refine W.no 4 100000 (by kernel_rfl) ?_
        refine W.no 4 100000 (by kernel_rfl) ?_
        refine W.cond 4 100000 h343 (by kernel_rfl) (fun h343 => ?_) (fun h343 => ?_)
        ·
          cases h343; exact W.at 4 100000 [] [0, 1] (by kernel_rfl) K343
        ·
          cases h343; exact W.at 4 100000 [] [] (by kernel_rfl) K343

theorem version_Parse_con {s_352 : List UInt8} {r : Int × List UInt8 × List UInt8 × Int} (h : version_Parse s_352 = some r) : Con Go.Proofs.Tryd.prog 35 [AV.str s_352] [] (version_Parse_res r) (version_Parse_out r) := by
  refine W.con (by kernel_rfl) ?_
  unfold version_Parse at h
  refine W.cond 0 100000 h (by kernel_rfl) (fun h => ?_) (fun h => ?_)
  ·
    exact W.retT 0 100000 h (by kernel_rfl)
  ·
    refine W.join (fun t => (Sum.elim (fun t_355 => r = ((0 : Int), [], [], (2 : Int))) (fun t_359 => Walk Go.Proofs.Tryd.prog 35 (Cfg.mk Mode.run (seqTodo Go.Proofs.Tryd.prog 35 6) (St.mk [jj, jj, AV.ptr (0 : Nat) (0 : Nat), jj, AV.ptr (1 : Nat) (0 : Nat), AV.str (Prod.fst t_359), AV.str (Prod.fst (Prod.snd t_359)), jj, jj, jj, jj, jj, jj, jj, jj, jj, jj, jj, jj, jj, jj, jj, jj, jj, jj, jj, jj, jj, jj, jj, jj, jj, jj, jj, jj, jj, jj, jj, jj, jj, jj, jj, jj, jj, jj, jj, jj, jj, jj, jj, jj, jj, jj, jj, jj, jj, jj, jj, jj, jj, jj, jj, jj, jj, jj, jj, jj, jj, jj, jj, jj, jj, jj, jj, jj, jj, jj, jj, jj, jj, jj, jj] [AO.box [AV.int IntKind.i64 (0 : Int), AV.str [], AV.str []], AO.box [AV.int IntKind.i64 (Prod.snd (Prod.snd t_359)), AV.str [], AV.str [(48 : UInt8)]]] (0 : Nat))) (version_Parse_res r) (version_Parse_out r))) t) h (fun t h => ?_) (fun t369 h369 K369 => ?_)
    ·
      rcases t with t_355 | t_359
      · replace h := W.inl (h)
        refine W.elimL (?_)
        exact (Option.some.inj h).symm
      · replace h := W.inr (h)
        refine W.elimR (?_)
        refine W.join (fun t_363 => Walk Go.Proofs.Tryd.prog 35 (Cfg.mk Mode.run (seqTodo Go.Proofs.Tryd.prog 35 14) (St.mk [jj, jj, AV.ptr (0 : Nat) (0 : Nat), jj, AV.ptr (1 : Nat) (0 : Nat), AV.str (Prod.fst t_359), jj, jj, jj, jj, jj, jj, jj, jj, jj, jj, jj, jj, jj, jj, jj, jj, jj, jj, jj, jj, jj, jj, jj, jj, jj, jj, jj, jj, jj, jj, jj, jj, jj, jj, jj, jj, jj, jj, jj, jj, jj, jj, jj, jj, jj, jj, jj, jj, jj, jj, jj, jj, jj, jj, jj, jj, jj, jj, jj, jj, jj, jj, jj, jj, jj, jj, jj, jj, jj, jj, jj, jj, jj, jj, jj, jj] [AO.box [AV.int IntKind.i64 (0 : Int), AV.str [], AV.str []], AO.box [AV.int IntKind.i64 (Prod.snd (Prod.snd t_359)), AV.str (Prod.fst t_363), AV.str (Prod.snd t_363)]] (0 : Nat))) (version_Parse_res r) (version_Parse_out r)) h (fun t_363 h => ?_) (fun t368 h368 K368 => ?_)
        ·
          refine W.cond 0 100000 h (by kernel_rfl) (fun h => ?_) (fun h => ?_)
          ·
            refine W.yes 0 100000 (by kernel_rfl) ?_
            refine W.yes 0 100000 (by kernel_rfl) ?_
            refine W.yes 0 100000 (by kernel_rfl) ?_
            refine W.yes 0 100000 (by kernel_rfl) ?_
            refine W.yes 0 100000 (by kernel_rfl) ?_
            refine W.yes 0 100000 (by kernel_rfl) ?_
            refine W.yes 0 100000 (by kernel_rfl) ?_
            refine W.yes 0 100000 (by kernel_rfl) ?_
            refine W.yes 0 100000 (by kernel_rfl) ?_
            refine W.yes 0 100000 (by kernel_rfl) ?_
            refine W.yes 0 100000 (by kernel_rfl) ?_
            refine W.yes 0 100000 (by kernel_rfl) ?_
            refine W.yes 0 100000 (by kernel_rfl) ?_
            refine W.yes 0 100000 (by kernel_rfl) ?_
            refine W.yes 0 100000 (by kernel_rfl) ?_
            refine W.yes 0 100000 (by kernel_rfl) ?_
            refine W.yes 0 100000 (by kernel_rfl) ?_
            refine W.yes 0 100000 (by kernel_rfl) ?_
            refine W.yes 0 100000 (by kernel_rfl) ?_
            refine W.yes 0 100000 (by kernel_rfl) ?_
            refine W.yes 0 100000 (by kernel_rfl) ?_
            exact W.retT 0 100000 h (by kernel_rfl)
          ·
            refine W.no 0 100000 (by kernel_rfl) ?_
            refine W.no 0 100000 (by kernel_rfl) ?_
            refine W.needT 0 100000 h (by kernel_rfl) (fun h => ?_)
            refine W.no 0 100000 (by kernel_rfl) ?_
            refine W.bind h fun a_364 ha_364 h => ?_
            refine W.call 0 100000 (by kernel_rfl) (version_digit_con ha_364) (by kernel_rfl) ?_
            refine W.no 0 100000 (by kernel_rfl) ?_
            refine W.no 0 100000 (by kernel_rfl) ?_
            refine W.cond 0 100000 h (by kernel_rfl) (fun h => ?_) (fun h => ?_)
            ·
              refine W.yes 0 100000 (by kernel_rfl) ?_
              refine W.yes 0 100000 (by kernel_rfl) ?_
              refine W.yes 0 100000 (by kernel_rfl) ?_
              refine W.yes 0 100000 (by kernel_rfl) ?_
              refine W.yes 0 100000 (by kernel_rfl) ?_
              refine W.yes 0 100000 (by kernel_rfl) ?_
              refine W.yes 0 100000 (by kernel_rfl) ?_
              refine W.yes 0 100000 (by kernel_rfl) ?_
              refine W.yes 0 100000 (by kernel_rfl) ?_
              refine W.yes 0 100000 (by kernel_rfl) ?_
              refine W.yes 0 100000 (by kernel_rfl) ?_
              refine W.yes 0 100000 (by kernel_rfl) ?_
              refine W.yes 0 100000 (by kernel_rfl) ?_
              refine W.yes 0 100000 (by kernel_rfl) ?_
              refine W.yes 0 100000 (by kernel_rfl) ?_
              exact W.retT 0 100000 h (by kernel_rfl)
            ·
              refine W.no 0 100000 (by kernel_rfl) ?_
              refine W.no 0 100000 (by kernel_rfl) ?_
              refine W.no 0 100000 (by kernel_rfl) ?_
              refine W.bind h fun a_365 ha_365 h => ?_
              refine W.call 0 100000 (by kernel_rfl) (version_only_con ha_365) (by kernel_rfl) ?_
              refine W.no 0 100000 (by kernel_rfl) ?_
              refine W.no 0 100000 (by kernel_rfl) ?_
              refine W.cond 0 100000 h (by kernel_rfl) (fun h => ?_) (fun h => ?_)
              ·
                refine W.yes 0 100000 (by kernel_rfl) ?_
                refine W.yes 0 100000 (by kernel_rfl) ?_
                refine W.yes 0 100000 (by kernel_rfl) ?_
                refine W.yes 0 100000 (by kernel_rfl) ?_
                refine W.yes 0 100000 (by kernel_rfl) ?_
                refine W.yes 0 100000 (by kernel_rfl) ?_
                refine W.yes 0 100000 (by kernel_rfl) ?_
                refine W.yes 0 100000 (by kernel_rfl) ?_
                refine W.yes 0 100000 (by kernel_rfl) ?_
                exact W.retT 0 100000 h (by kernel_rfl)
              ·
                refine W.no 0 100000 (by kernel_rfl) ?_
                refine W.no 0 100000 (by kernel_rfl) ?_
                refine W.no 0 100000 (by kernel_rfl) ?_
                refine W.cond 0 100000 h (by kernel_rfl) (fun h => ?_) (fun h => ?_)
                ·
                  refine W.yes 0 100000 (by kernel_rfl) ?_
                  refine W.yes 0 100000 (by kernel_rfl) ?_
                  refine W.yes 0 100000 (by kernel_rfl) ?_
                  refine W.yes 0 100000 (by kernel_rfl) ?_
                  refine W.yes 0 100000 (by kernel_rfl) ?_
                  exact W.retT 0 100000 h (by kernel_rfl)
                ·
                  refine W.no 0 100000 (by kernel_rfl) ?_
                  refine W.no 0 100000 (by kernel_rfl) ?_
                  refine W.bind h fun a_366 ha_366 h => ?_
                  refine W.call 0 100000 (by kernel_rfl) (version_only_con ha_366) (by kernel_rfl) ?_
                  refine W.no 0 100000 (by kernel_rfl) ?_
                  refine W.no 0 100000 (by kernel_rfl) ?_
                  refine W.cond 0 100000 h (by kernel_rfl) (fun h => ?_) (fun h => ?_)
                  ·
                    exact W.retT 0 100000 h (by kernel_rfl)
                  ·
                    exact W.retT 0 100000 h (by kernel_rfl)
        · refine W.next 0 7 (by kernel_rfl) ?_
          refine W.bind h368 fun a_360 ha_360 h368 => ?_
          refine W.call 1 100000 (by kernel_rfl) (strings_LastIndexByte_con ha_360) (by kernel_rfl) ?_
          refine W.cond 1 100000 h368 (by kernel_rfl) (fun h368 => ?_) (fun h368 => ?_)
          ·
            refine W.needT 1 100000 h368 (by kernel_rfl) (fun h368 => ?_)
            refine W.needT 1 100000 h368 (by kernel_rfl) (fun h368 => ?_)
            cases h368; exact W.at 1 100000 [] [2, 4, 5] (by kernel_rfl) K368
          ·
            cases h368; exact W.at 1 100000 [] [2, 4, 5] (by kernel_rfl) K368
    · refine W.next 0 14 (by kernel_rfl) ?_
      refine W.bind h369 fun a_353 ha_353 h369 => ?_
      refine W.call 1 100000 (by kernel_rfl) (strings_IndexByte_con ha_353) (by kernel_rfl) ?_
      refine W.cond 1 100000 h369 (by kernel_rfl) (fun h369 => ?_) (fun h369 => ?_)
      ·
        refine W.needT 1 100000 h369 (by kernel_rfl) (fun h369 => ?_)
        refine W.bind h369 fun a_354 ha_354 h369 => ?_
        refine W.call 1 100000 (by kernel_rfl) (version_epoch_con ha_354) (by kernel_rfl) ?_
        refine W.cond 1 100000 h369 (by kernel_rfl) (fun h369 => ?_) (fun h369 => ?_)
        ·
          cases h369; exact W.retK 1 100000 K369 (by kernel_rfl)
        ·
          refine W.needT 1 100000 h369 (by kernel_rfl) (fun h369 => ?_)
          cases h369; exact W.at 1 100000 [] [2, 4, 5, 6] (by kernel_rfl) K369
      ·
        cases h369; exact W.at 1 100000 [] [2, 4, 5, 6] (by kernel_rfl) K369

theorem cellarerref05_Parse_con {s_375 : List UInt8} {r : Int × List UInt8 × List UInt8 × Int} (h : cellarerref05_Parse s_375 = some r) : Con Go.Proofs.Tryd.prog 37 [AV.str s_375] [] (cellarerref05_Parse_res r) (cellarerref05_Parse_out r) := by
  refine W.con (by kernel_rfl) ?_
  unfold cellarerref05_Parse at h
  refine W.cond 0 100000 h (by kernel_rfl) (fun h => ?_) (fun h => ?_)
  ·
    exact W.retT 0 100000 h (by kernel_rfl)
  ·
    refine W.bind h fun a_376 ha_376 h => ?_
    refine W.call 0 100000 (by kernel_rfl) (cellarerref05_at_con ha_376) (by kernel_rfl) ?_
    refine W.join (fun t => (Sum.elim (fun t_399 => r = ((0 : Int), [], [], (2 : Int))) (fun t_403 => Walk Go.Proofs.Tryd.prog 37 (Cfg.mk Mode.run (seqTodo Go.Proofs.Tryd.prog 37 9) (St.mk [jj, jj, AV.ptr (0 : Nat) (0 : Nat), jj, AV.ptr (1 : Nat) (0 : Nat), AV.ptr (2 : Nat) (0 : Nat), jj, AV.str (Prod.fst t_403), AV.str (Prod.fst (Prod.snd t_403)), jj, jj, jj, jj, jj, jj, jj, jj, jj, jj, jj, jj, jj, jj, jj, jj, jj, jj, jj, jj, jj, jj, jj, jj, jj, jj, jj, jj, jj, jj, jj, jj, jj, jj, jj, jj, jj, jj, jj, jj, jj, jj, jj, jj, jj, jj, jj, jj, jj, jj, jj, jj, jj, jj, jj, jj, jj, jj, jj, jj, jj, jj, jj, jj, jj, jj, jj, jj, jj, jj, jj, jj, jj, jj, jj, jj, jj, jj, jj, jj, jj, jj, jj, jj, jj, jj, jj, jj, jj, jj] [AO.box [AV.int IntKind.i64 (0 : Int), AV.str [], AV.str []], AO.box [AV.int IntKind.i64 (Prod.snd (Prod.snd t_403)), AV.str [], AV.str [(48 : UInt8)]], AO.box [AV.int IntKind.i64 (0 : Int), AV.str [], AV.str []]] (0 : Nat))) (cellarerref05_Parse_res r) (cellarerref05_Parse_out r))) t) h (fun t h => ?_) (fun t413 h413 K413 => ?_)
    ·
      rcases t with t_399 | t_403
      · replace h := W.inl (h)
        refine W.elimL (?_)
        exact (Option.some.inj h).symm
      · replace h := W.inr (h)
        refine W.elimR (?_)
        refine W.bind h fun a_404 ha_404 h => ?_
        refine W.call 0 100000 (by kernel_rfl) (cellarerref05_at_con ha_404) (by kernel_rfl) ?_
        refine W.join (fun t_407 => Walk Go.Proofs.Tryd.prog 37 (Cfg.mk Mode.run (seqTodo Go.Proofs.Tryd.prog 37 25) (St.mk [jj, jj, AV.ptr (0 : Nat) (0 : Nat), jj, AV.ptr (1 : Nat) (0 : Nat), AV.ptr (2 : Nat) (0 : Nat), jj, AV.str (Prod.fst t_403), jj, jj, jj, jj, jj, jj, jj, jj, jj, jj, jj, jj, jj, jj, jj, jj, jj, jj, jj, jj, jj, jj, jj, jj, jj, jj, jj, jj, jj, jj, jj, jj, jj, jj, jj, jj, jj, jj, jj, jj, jj, jj, jj, jj, jj, jj, jj, jj, jj, jj, jj, jj, jj, jj, jj, jj, jj, jj, jj, jj, jj, jj, jj, jj, jj, jj, jj, jj, jj, jj, jj, jj, jj, jj, jj, jj, jj, jj, jj, jj, jj, jj, jj, jj, jj, jj, jj, jj, jj, jj, jj] [AO.box [AV.int IntKind.i64 (0 : Int), AV.str [], AV.str []], AO.box [AV.int IntKind.i64 (Prod.snd (Prod.snd t_403)), AV.str (Prod.fst t_407), AV.str (Prod.snd t_407)], AO.box [AV.int IntKind.i64 (0 : Int), AV.str [], AV.str []]] (0 : Nat))) (cellarerref05_Parse_res r) (cellarerref05_Parse_out r)) h (fun t_407 h => ?_) (fun t412 h412 K412 => ?_)
        ·
          refine W.cond 0 100000 h (by kernel_rfl) (fun h => ?_) (fun h => ?_)
          ·
            refine W.yes 0 100000 (by kernel_rfl) ?_
            refine W.yes 0 100000 (by kernel_rfl) ?_
            refine W.yes 0 100000 (by kernel_rfl) ?_
            refine W.yes 0 100000 (by kernel_rfl) ?_
            refine W.yes 0 100000 (by kernel_rfl) ?_
            refine W.yes 0 100000 (by kernel_rfl) ?_
            refine W.yes 0 100000 (by kernel_rfl) ?_
            refine W.yes 0 100000 (by kernel_rfl) ?_
            refine W.yes 0 100000 (by kernel_rfl) ?_
            refine W.yes 0 100000 (by kernel_rfl) ?_
            refine W.yes 0 100000 (by kernel_rfl) ?_
            refine W.yes 0 100000 (by kernel_rfl) ?_
            refine W.yes 0 100000 (by kernel_rfl) ?_
            refine W.yes 0 100000 (by kernel_rfl) ?_
            refine W.yes 0 100000 (by kernel_rfl) ?_
            refine W.yes 0 100000 (by kernel_rfl) ?_
            refine W.yes 0 100000 (by kernel_rfl) ?_
            refine W.yes 0 100000 (by kernel_rfl) ?_
            refine W.yes 0 100000 (by kernel_rfl) ?_
            refine W.yes 0 100000 (by kernel_rfl) ?_
            refine W.yes 0 100000 (by kernel_rfl) ?_
            exact W.retT 0 100000 h (by kernel_rfl)
          ·
            refine W.no 0 100000 (by kernel_rfl) ?_
            refine W.no 0 100000 (by kernel_rfl) ?_
            refine W.needT 0 100000 h (by kernel_rfl) (fun h => ?_)
            refine W.no 0 100000 (by kernel_rfl) ?_
            refine W.bind h fun a_408 ha_408 h => ?_
            refine W.call 0 100000 (by kernel_rfl) (cellarerref05_Digit_con ha_408) (by kernel_rfl) ?_
            refine W.no 0 100000 (by kernel_rfl) ?_
            refine W.no 0 100000 (by kernel_rfl) ?_
            refine W.cond 0 100000 h (by kernel_rfl) (fun h => ?_) (fun h => ?_)
            ·
              refine W.yes 0 100000 (by kernel_rfl) ?_
              refine W.yes 0 100000 (by kernel_rfl) ?_
              refine W.yes 0 100000 (by kernel_rfl) ?_
              refine W.yes 0 100000 (by kernel_rfl) ?_
              refine W.yes 0 100000 (by kernel_rfl) ?_
              refine W.yes 0 100000 (by kernel_rfl) ?_
              refine W.yes 0 100000 (by kernel_rfl) ?_
              refine W.yes 0 100000 (by kernel_rfl) ?_
              refine W.yes 0 100000 (by kernel_rfl) ?_
              refine W.yes 0 100000 (by kernel_rfl) ?_
              refine W.yes 0 100000 (by kernel_rfl) ?_
              refine W.yes 0 100000 (by kernel_rfl) ?_
              refine W.yes 0 100000 (by kernel_rfl) ?_
              refine W.yes 0 100000 (by kernel_rfl) ?_
              refine W.yes 0 100000 (by kernel_rfl) ?_
              exact W.retT 0 100000 h (by kernel_rfl)
            ·
              refine W.no 0 100000 (by kernel_rfl) ?_
              refine W.no 0 100000 (by kernel_rfl) ?_
              refine W.no 0 100000 (by kernel_rfl) ?_
              refine W.bind h fun a_409 ha_409 h => ?_
              refine W.call 0 100000 (by kernel_rfl) (cellarerref05_only_con ha_409) (by kernel_rfl) ?_
              refine W.no 0 100000 (by kernel_rfl) ?_
              refine W.no 0 100000 (by kernel_rfl) ?_
              refine W.cond 0 100000 h (by kernel_rfl) (fun h => ?_) (fun h => ?_)
              ·
                refine W.yes 0 100000 (by kernel_rfl) ?_
                refine W.yes 0 100000 (by kernel_rfl) ?_
                refine W.yes 0 100000 (by kernel_rfl) ?_
                refine W.yes 0 100000 (by kernel_rfl) ?_
                refine W.yes 0 100000 (by kernel_rfl) ?_
                refine W.yes 0 100000 (by kernel_rfl) ?_
                refine W.yes 0 100000 (by kernel_rfl) ?_
                refine W.yes 0 100000 (by kernel_rfl) ?_
                refine W.yes 0 100000 (by kernel_rfl) ?_
                exact W.retT 0 100000 h (by kernel_rfl)
              ·
                refine W.no 0 100000 (by kernel_rfl) ?_
                refine W.no 0 100000 (by kernel_rfl) ?_
                refine W.no 0 100000 (by kernel_rfl) ?_
                refine W.cond 0 100000 h (by kernel_rfl) (fun h => ?_) (fun h => ?_)
                ·
                  refine W.yes 0 100000 (by kernel_rfl) ?_
                  refine W.yes 0 100000 (by kernel_rfl) ?_
                  refine W.yes 0 100000 (by kernel_rfl) ?_
                  refine W.yes 0 100000 (by kernel_rfl) ?_
                  refine W.yes 0 100000 (by kernel_rfl) ?_
                  exact W.retT 0 100000 h (by kernel_rfl)
                ·
                  refine W.no 0 100000 (by kernel_rfl) ?_
                  refine W.no 0 100000 (by kernel_rfl) ?_
                  refine W.bind h fun a_410 ha_410 h => ?_
                  refine W.call 0 100000 (by kernel_rfl) (cellarerref05_only_con ha_410) (by kernel_rfl) ?_
                  refine W.no 0 100000 (by kernel_rfl) ?_
                  refine W.no 0 100000 (by kernel_rfl) ?_
                  refine W.cond 0 100000 h (by kernel_rfl) (fun h => ?_) (fun h => ?_)
                  ·
                    exact W.retT 0 100000 h (by kernel_rfl)
                  ·
                    exact W.retT 0 100000 h (by kernel_rfl)
        · refine W.next 0 3 (by kernel_rfl) ?_
          refine W.cond 1 100000 h412 (by kernel_rfl) (fun h412 => ?_) (fun h412 => ?_)
          ·
            refine W.needT 1 100000 h412 (by kernel_rfl) (fun h412 => ?_)
            refine W.needT 1 100000 h412 (by kernel_rfl) (fun h412 => ?_)
            cases h412; exact W.at 1 100000 [] [2, 4, 5, 7] (by kernel_rfl) K412
          ·
            cases h412; exact W.at 1 100000 [] [2, 4, 5, 7] (by kernel_rfl) K412
    · refine W.next 0 12 (by kernel_rfl) ?_
      refine W.cond 1 100000 h413 (by kernel_rfl) (fun h413 => ?_) (fun h413 => ?_)
      ·
        refine W.needT 1 100000 h413 (by kernel_rfl) (fun h413 => ?_)
        refine W.join (fun t => (Sum.elim (fun t_377 => r = ((0 : Int), [], [], (2 : Int))) (fun t_378 => Walk Go.Proofs.Tryd.prog 37 (Cfg.mk Mode.run (seqTodo Go.Proofs.Tryd.prog 37 13) (St.mk [AV.str s_375, jj, AV.ptr (0 : Nat) (0 : Nat), jj, AV.ptr (1 : Nat) (0 : Nat), AV.ptr (2 : Nat) (0 : Nat), AV.int IntKind.i64 a_376, AV.str [(46 : UInt8), (43 : UInt8), (45 : UInt8), (126 : UInt8), (58 : UInt8)], AV.str (List.drop (Int.toNat (IntKind.wrap IntKind.i64 (a_376 + (1 : Int)))) (List.take (Int.toNat (↑(List.length s_375) : Int)) s_375)), jj, jj, jj, jj, jj, jj, jj, jj, jj, jj, jj, jj, jj, jj, jj, jj, jj, jj, jj, jj, jj, jj, jj, jj, jj, jj, jj, jj, jj, jj, jj, jj, jj, jj, jj, jj, jj, jj, jj, jj, jj, jj, jj, jj, jj, jj, jj, jj, jj, jj, jj, jj, jj, jj, jj, jj, jj, jj, jj, jj, jj, jj, jj, jj, jj, jj, jj, jj, jj, jj, jj, jj, jj, jj, jj, jj, jj, jj, jj, jj, jj, jj, jj, jj, jj, jj, jj, jj, jj, jj] [AO.box [AV.int IntKind.i64 (0 : Int), AV.str [], AV.str []], AO.box [AV.int IntKind.i64 (0 : Int), AV.str [], AV.str [(48 : UInt8)]], AO.box [AV.int IntKind.i64 (0 : Int), AV.str [], AV.str []]] (0 : Nat))) (cellarerref05_Parse_res r) (cellarerref05_Parse_out r))) t) h413 (fun t h413 => ?_) (fun t399 h399 K399 => ?_)
        ·
          rcases t with t_377 | t_378
          · replace h413 := W.inl (h413)
            refine W.elimL (?_)
            cases h413; exact K413
          · replace h413 := W.inr (h413)
            refine W.elimR (?_)
            refine W.at 1 100000 [] [0, 2, 4, 5, 6, 7, 8, 9] (c' := (fun (s_419 : Int × Int) => (Cfg.mk Mode.run (headTodo Go.Proofs.Tryd.prog 37 0) (St.mk [AV.str s_375, jj, AV.ptr (0 : Nat) (0 : Nat), jj, AV.ptr (1 : Nat) (0 : Nat), AV.ptr (2 : Nat) (0 : Nat), AV.int IntKind.i64 a_376, AV.str [(46 : UInt8), (43 : UInt8), (45 : UInt8), (126 : UInt8), (58 : UInt8)], AV.str (List.drop (Int.toNat (IntKind.wrap IntKind.i64 (a_376 + (1 : Int)))) (List.take (Int.toNat (↑(List.length s_375) : Int)) s_375)), AV.int IntKind.i64 (Prod.fst s_419), jj, jj, jj, jj, jj, jj, jj, jj, jj, jj, jj, jj, jj, jj, jj, jj, jj, jj, jj, jj, jj, jj, jj, jj, jj, jj, jj, jj, jj, jj, jj, jj, jj, jj, jj, jj, jj, jj, jj, jj, jj, jj, jj, jj, jj, jj, jj, jj, jj, jj, jj, jj, jj, jj, jj, jj, jj, jj, jj, jj, jj, jj, jj, jj, jj, jj, jj, jj, jj, jj, jj, jj, jj, jj, jj, jj, jj, jj, jj, jj, jj, jj, jj, jj, jj, jj, jj, jj, jj] [AO.box [AV.int IntKind.i64 (0 : Int), AV.str [], AV.str []], AO.box [AV.int IntKind.i64 (Prod.snd s_419), AV.str [], AV.str [(48 : UInt8)]], AO.box [AV.int IntKind.i64 (0 : Int), AV.str [], AV.str []]] (0 : Nat)))) ((0 : Int), (0 : Int))) (by kernel_rfl) ?_
            refine W.loop (fun (s_419 : Int × Int) => (Cfg.mk Mode.run (headTodo Go.Proofs.Tryd.prog 37 0) (St.mk [AV.str s_375, jj, AV.ptr (0 : Nat) (0 : Nat), jj, AV.ptr (1 : Nat) (0 : Nat), AV.ptr (2 : Nat) (0 : Nat), AV.int IntKind.i64 a_376, AV.str [(46 : UInt8), (43 : UInt8), (45 : UInt8), (126 : UInt8), (58 : UInt8)], AV.str (List.drop (Int.toNat (IntKind.wrap IntKind.i64 (a_376 + (1 : Int)))) (List.take (Int.toNat (↑(List.length s_375) : Int)) s_375)), AV.int IntKind.i64 (Prod.fst s_419), jj, jj, jj, jj, jj, jj, jj, jj, jj, jj, jj, jj, jj, jj, jj, jj, jj, jj, jj, jj, jj, jj, jj, jj, jj, jj, jj, jj, jj, jj, jj, jj, jj, jj, jj, jj, jj, jj, jj, jj, jj, jj, jj, jj, jj, jj, jj, jj, jj, jj, jj, jj, jj, jj, jj, jj, jj, jj, jj, jj, jj, jj, jj, jj, jj, jj, jj, jj, jj, jj, jj, jj, jj, jj, jj, jj, jj, jj, jj, jj, jj, jj, jj, jj, jj, jj, jj, jj, jj] [AO.box [AV.int IntKind.i64 (0 : Int), AV.str [], AV.str []], AO.box [AV.int IntKind.i64 (Prod.snd s_419), AV.str [], AV.str [(48 : UInt8)]], AO.box [AV.int IntKind.i64 (0 : Int), AV.str [], AV.str []]] (0 : Nat)))) (fun t => (Sum.elim (fun t_394 => r = ((0 : Int), [], [], (2 : Int))) (fun t_396 => Walk Go.Proofs.Tryd.prog 37 (Cfg.mk Mode.run ((headTodo Go.Proofs.Tryd.prog 37 0).drop 3) (St.mk [jj, jj, AV.ptr (0 : Nat) (0 : Nat), jj, AV.ptr (1 : Nat) (0 : Nat), AV.ptr (2 : Nat) (0 : Nat), jj, AV.str [(46 : UInt8), (43 : UInt8), (45 : UInt8), (126 : UInt8), (58 : UInt8)], AV.str (List.drop (Int.toNat (IntKind.wrap IntKind.i64 (a_376 + (1 : Int)))) (List.take (Int.toNat (↑(List.length s_375) : Int)) s_375)), jj, jj, jj, jj, jj, jj, jj, jj, jj, jj, jj, jj, jj, jj, jj, jj, jj, jj, jj, jj, jj, jj, jj, jj, jj, jj, jj, jj, jj, jj, jj, jj, jj, jj, jj, jj, jj, jj, jj, jj, jj, jj, jj, jj, jj, jj, jj, jj, jj, jj, jj, jj, jj, jj, jj, jj, jj, jj, jj, jj, jj, jj, jj, jj, jj, jj, jj, jj, jj, jj, jj, jj, jj, jj, jj, jj, jj, jj, jj, jj, jj, jj, jj, jj, jj, jj, jj, jj, jj, jj] [AO.box [AV.int IntKind.i64 (0 : Int), AV.str [], AV.str []], AO.box [AV.int IntKind.i64 t_396, AV.str [], AV.str [(48 : UInt8)]], AO.box [AV.int IntKind.i64 (0 : Int), AV.str [], AV.str []]] (0 : Nat))) (cellarerref05_Parse_res r) (cellarerref05_Parse_out r))) t) h413 (fun t h413 => ?_) (fun s_419 x398 h398 K398 => ?_)
            ·
              rcases t with t_394 | t_396
              · replace h413 := W.inl (h413)
                refine W.elimL (?_)
                cases h413; exact K413
              · replace h413 := W.inr (h413)
                refine W.elimR (?_)
                cases h413; exact W.at 1 100000 [] [2, 4, 5, 7, 8] (by kernel_rfl) K413
            · unfold cellarerref05_Parse_b0 at h398
              refine W.cond 2 100000 h398 (by kernel_rfl) (fun h398 => ?_) (fun h398 => ?_)
              ·
                refine W.needT 2 100000 h398 (by kernel_rfl) (fun h398 => ?_)
                refine W.bind h398 fun a_393 ha_393 h398 => ?_
                refine W.call 2 100000 (by kernel_rfl) (cellarerref05_Digit_con ha_393) (by kernel_rfl) ?_
                refine W.cond 2 100000 h398 (by kernel_rfl) (fun h398 => ?_) (fun h398 => ?_)
                ·
                  cases h398; exact W.retK 2 100000 K398 (by kernel_rfl)
                ·
                  refine W.needT 2 100000 h398 (by kernel_rfl) (fun h398 => ?_)
                  cases h398; exact W.at 2 100000 [] [0, 2, 4, 5, 6, 7, 8, 9] (by kernel_rfl) K398
              ·
                cases h398; exact W.at 2 100000 [] [2, 4, 5, 7, 8] (by kernel_rfl) K398
        · refine W.next 1 3 (by kernel_rfl) ?_
          refine W.cond 2 100000 h399 (by kernel_rfl) (fun h399 => ?_) (fun h399 => ?_)
          ·
            refine W.yes 2 100000 (by kernel_rfl) ?_
            refine W.yes 2 100000 (by kernel_rfl) ?_
            refine W.yes 2 100000 (by kernel_rfl) ?_
            cases h399; exact W.retK 2 100000 K399 (by kernel_rfl)
          ·
            refine W.no 2 100000 (by kernel_rfl) ?_
            refine W.no 2 100000 (by kernel_rfl) ?_
            refine W.cond 2 100000 h399 (by kernel_rfl) (fun h399 => ?_) (fun h399 => ?_)
            ·
              cases h399; exact W.retK 2 100000 K399 (by kernel_rfl)
            ·
              cases h399; exact W.at 2 100000 [] [0, 2, 4, 5, 6, 7, 8] (by kernel_rfl) K399
      ·
        cases h413; exact W.at 1 100000 [] [2, 4, 5, 7, 8] (by kernel_rfl) K413

theorem version_parsed_con {s_424 : List UInt8} {r : Int × List UInt8 × List UInt8} (h : version_parsed s_424 = some r) : Con Go.Proofs.Tryd.prog 75 [AV.str s_424] [] (version_parsed_res r) (version_parsed_out r) := by
  refine W.con (by kernel_rfl) ?_
  unfold version_parsed at h
  refine W.bind h fun a_425 ha_425 h => ?_
  refine W.call 0 100000 (by kernel_rfl) (version_Parse_con ha_425) (by kernel_rfl) ?_
  refine W.cond 0 100000 h (by kernel_rfl) (fun h => ?_) (fun h => ?_)
  ·
    exact W.retT 0 100000 h (by kernel_rfl)
  ·
    exact W.retT 0 100000 h (by kernel_rfl)

theorem version_Compare_con {a_422 : List UInt8} {b_423 : List UInt8} {r : Int} (h : version_Compare a_422 b_423 = some r) : Con Go.Proofs.Tryd.prog 63 [AV.str a_422, AV.str b_423] [] (version_Compare_res r) (version_Compare_out r) := by
  refine W.con (by kernel_rfl) ?_
  unfold version_Compare at h
  refine W.bind h fun a_430 ha_430 h => ?_
  refine W.call 0 100000 (by kernel_rfl) (version_parsed_con ha_430) (by kernel_rfl) ?_
  refine W.bind h fun a_431 ha_431 h => ?_
  refine W.call 0 100000 (by kernel_rfl) (version_parsed_con ha_431) (by kernel_rfl) ?_
  refine W.bind h fun a_432 ha_432 h => ?_
  refine W.call 0 100000 (by kernel_rfl) (cmp_Compare_int__con ha_432) (by kernel_rfl) ?_
  refine W.cond 0 100000 h (by kernel_rfl) (fun h => ?_) (fun h => ?_)
  ·
    exact W.retT 0 100000 h (by kernel_rfl)
  ·
    refine W.bind h fun a_433 ha_433 h => ?_
    refine W.call 0 100000 (by kernel_rfl) (version_Order_con ha_433) (by kernel_rfl) ?_
    refine W.cond 0 100000 h (by kernel_rfl) (fun h => ?_) (fun h => ?_)
    ·
      exact W.retT 0 100000 h (by kernel_rfl)
    ·
      refine W.bind h fun a_434 ha_434 h => ?_
      refine W.call 0 100000 (by kernel_rfl) (version_Order_con ha_434) (by kernel_rfl) ?_
      exact W.retT 0 100000 h (by kernel_rfl)

theorem cellarerref05_Compare_con {a_439 : List UInt8} {b_440 : List UInt8} {r : Int} (h : cellarerref05_Compare a_439 b_440 = some r) : Con Go.Proofs.Tryd.prog 64 [AV.str a_439, AV.str b_440] [] (cellarerref05_Compare_res r) (cellarerref05_Compare_out r) := by
  refine W.con (by kernel_rfl) ?_
  unfold cellarerref05_Compare at h
  refine W.bind h fun a_441 ha_441 h => ?_
  refine W.call 0 100000 (by kernel_rfl) (cellarerref05_Parse_con ha_441) (by kernel_rfl) ?_
  refine W.join (fun t_445 => Walk Go.Proofs.Tryd.prog 64 (Cfg.mk Mode.run (seqTodo Go.Proofs.Tryd.prog 64 2) (St.mk [jj, AV.str b_440, jj, jj, jj, AV.ptr (0 : Nat) (0 : Nat), jj, jj, jj, jj, jj, jj, jj, jj, jj, jj, jj, jj, jj, jj, jj, jj, jj, jj, jj, jj, jj, jj, jj, jj, jj, jj, jj, jj, jj, jj, jj, jj, jj, jj, jj, jj, jj, jj, jj, jj, jj, jj, jj, jj, jj, jj, jj] [AO.box [AV.int IntKind.i64 (Prod.fst t_445), AV.str (Prod.fst (Prod.snd t_445)), AV.str (Prod.snd (Prod.snd t_445))]] (0 : Nat))) (cellarerref05_Compare_res r) (cellarerref05_Compare_out r)) h (fun t_445 h => ?_) (fun t455 h455 K455 => ?_)
  ·
    refine W.bind h fun a_446 ha_446 h => ?_
    refine W.call 0 100000 (by kernel_rfl) (cellarerref05_Parse_con ha_446) (by kernel_rfl) ?_
    refine W.join (fun t_450 => Walk Go.Proofs.Tryd.prog 64 (Cfg.mk Mode.run (seqTodo Go.Proofs.Tryd.prog 64 5) (St.mk [jj, jj, jj, jj, jj, AV.ptr (0 : Nat) (0 : Nat), jj, AV.ptr (1 : Nat) (0 : Nat), jj, jj, jj, jj, jj, jj, jj, jj, jj, jj, jj, jj, jj, jj, jj, jj, jj, jj, jj, jj, jj, jj, jj, jj, jj, jj, jj, jj, jj, jj, jj, jj, jj, jj, jj, jj, jj, jj, jj, jj, jj, jj, jj, jj, jj] [AO.box [AV.int IntKind.i64 (Prod.fst t_445), AV.str (Prod.fst (Prod.snd t_445)), AV.str (Prod.snd (Prod.snd t_445))], AO.box [AV.int IntKind.i64 (Prod.fst t_450), AV.str (Prod.fst (Prod.snd t_450)), AV.str (Prod.snd (Prod.snd t_450))]] (0 : Nat))) (cellarerref05_Compare_res r) (cellarerref05_Compare_out r)) h (fun t_450 h => ?_) (fun t454 h454 K454 => ?_)
    ·
      refine W.cond 0 100000 h (by kernel_rfl) (fun h => ?_) (fun h => ?_)
      ·
        exact W.retT 0 100000 h (by kernel_rfl)
      ·
        refine W.cond 0 100000 h (by kernel_rfl) (fun h => ?_) (fun h => ?_)
        ·
          exact W.retT 0 100000 h (by kernel_rfl)
        ·
          refine W.bind h fun a_451 ha_451 h => ?_
          refine W.call 0 100000 (by kernel_rfl) (cellarerref05_Order_con ha_451) (by kernel_rfl) ?_
          refine W.cond 0 100000 h (by kernel_rfl) (fun h => ?_) (fun h => ?_)
          ·
            exact W.retT 0 100000 h (by kernel_rfl)
          ·
            refine W.bind h fun a_452 ha_452 h => ?_
            refine W.call 0 100000 (by kernel_rfl) (cellarerref05_Order_con ha_452) (by kernel_rfl) ?_
            exact W.retT 0 100000 h (by kernel_rfl)
    · refine W.next 0 8 (by kernel_rfl) ?_
      refine W.cond 1 100000 h454 (by kernel_rfl) (fun h454 => ?_) (fun h454 => ?_)
      ·
        cases h454; exact W.at 1 100000 [] [5, 7] (by kernel_rfl) K454
      ·
        cases h454; exact W.at 1 100000 [] [5, 7] (by kernel_rfl) K454
  · refine W.next 0 8 (by kernel_rfl) ?_
    refine W.cond 1 100000 h455 (by kernel_rfl) (fun h455 => ?_) (fun h455 => ?_)
    ·
      cases h455; exact W.at 1 100000 [] [1, 5] (by kernel_rfl) K455
    ·
      cases h455; exact W.at 1 100000 [] [1, 5] (by kernel_rfl) K455

theorem version_Holds_con {v_460 : List UInt8} {op_461 : List UInt8} {other_462 : List UInt8} {r : Bool} (h : version_Holds v_460 op_461 other_462 = some r) : Con Go.Proofs.Tryd.prog 43 [AV.str v_460, AV.str op_461, AV.str other_462] [] (version_Holds_res r) (version_Holds_out r) := by
  refine W.con (by kernel_rfl) ?_
  unfold version_Holds at h
  refine W.bind h fun a_463 ha_463 h => ?_
  refine W.call 0 100000 (by kernel_rfl) (version_Compare_con ha_463) (by kernel_rfl) ?_
  refine W.cond 0 100000 h (by kernel_rfl) (fun h => ?_) (fun h => ?_)
  ·
    exact W.retT 0 100000 h (by kernel_rfl)
  ·
    refine W.cond 0 100000 h (by kernel_rfl) (fun h => ?_) (fun h => ?_)
    ·
      exact W.retT 0 100000 h (by kernel_rfl)
    ·
      refine W.cond 0 100000 h (by kernel_rfl) (fun h => ?_) (fun h => ?_)
      ·
        exact W.retT 0 100000 h (by kernel_rfl)
      ·
        refine W.cond 0 100000 h (by kernel_rfl) (fun h => ?_) (fun h => ?_)
        ·
          exact W.retT 0 100000 h (by kernel_rfl)
        ·
          refine W.cond 0 100000 h (by kernel_rfl) (fun h => ?_) (fun h => ?_)
          ·
            exact W.retT 0 100000 h (by kernel_rfl)
          ·
            exact W.retT 0 100000 h (by kernel_rfl)

theorem cellarerref05_Holds_con {v_469 : List UInt8} {op_470 : List UInt8} {other_471 : List UInt8} {r : Bool} (h : cellarerref05_Holds v_469 op_470 other_471 = some r) : Con Go.Proofs.Tryd.prog 44 [AV.str v_469, AV.str op_470, AV.str other_471] [] (cellarerref05_Holds_res r) (cellarerref05_Holds_out r) := by
  refine W.con (by kernel_rfl) ?_
  unfold cellarerref05_Holds at h
  refine W.bind h fun a_472 ha_472 h => ?_
  refine W.call 0 100000 (by kernel_rfl) (cellarerref05_Compare_con ha_472) (by kernel_rfl) ?_
  refine W.cond 0 100000 h (by kernel_rfl) (fun h => ?_) (fun h => ?_)
  ·
    refine W.yes 0 100000 (by kernel_rfl) ?_
    refine W.yes 0 100000 (by kernel_rfl) ?_
    refine W.yes 0 100000 (by kernel_rfl) ?_
    refine W.yes 0 100000 (by kernel_rfl) ?_
    refine W.yes 0 100000 (by kernel_rfl) ?_
    refine W.yes 0 100000 (by kernel_rfl) ?_
    refine W.yes 0 100000 (by kernel_rfl) ?_
    refine W.yes 0 100000 (by kernel_rfl) ?_
    refine W.yes 0 100000 (by kernel_rfl) ?_
    refine W.yes 0 100000 (by kernel_rfl) ?_
    refine W.yes 0 100000 (by kernel_rfl) ?_
    refine W.yes 0 100000 (by kernel_rfl) ?_
    refine W.yes 0 100000 (by kernel_rfl) ?_
    refine W.yes 0 100000 (by kernel_rfl) ?_
    refine W.yes 0 100000 (by kernel_rfl) ?_
    refine W.yes 0 100000 (by kernel_rfl) ?_
    refine W.yes 0 100000 (by kernel_rfl) ?_
    refine W.yes 0 100000 (by kernel_rfl) ?_
    refine W.yes 0 100000 (by kernel_rfl) ?_
    refine W.yes 0 100000 (by kernel_rfl) ?_
    refine W.yes 0 100000 (by kernel_rfl) ?_
    refine W.yes 0 100000 (by kernel_rfl) ?_
    refine W.yes 0 100000 (by kernel_rfl) ?_
    refine W.yes 0 100000 (by kernel_rfl) ?_
    exact W.retT 0 100000 h (by kernel_rfl)
  ·
    refine W.no 0 100000 (by kernel_rfl) ?_
    refine W.no 0 100000 (by kernel_rfl) ?_
    refine W.cond 0 100000 h (by kernel_rfl) (fun h => ?_) (fun h => ?_)
    ·
      refine W.yes 0 100000 (by kernel_rfl) ?_
      refine W.no 0 100000 (by kernel_rfl) ?_
      refine W.yes 0 100000 (by kernel_rfl) ?_
      refine W.no 0 100000 (by kernel_rfl) ?_
      refine W.cond 0 100000 h (by kernel_rfl) (fun h => ?_) (fun h => ?_)
      ·
        refine W.yes 0 100000 (by kernel_rfl) ?_
        refine W.yes 0 100000 (by kernel_rfl) ?_
        refine W.yes 0 100000 (by kernel_rfl) ?_
        refine W.yes 0 100000 (by kernel_rfl) ?_
        refine W.yes 0 100000 (by kernel_rfl) ?_
        refine W.yes 0 100000 (by kernel_rfl) ?_
        refine W.yes 0 100000 (by kernel_rfl) ?_
        refine W.yes 0 100000 (by kernel_rfl) ?_
        refine W.yes 0 100000 (by kernel_rfl) ?_
        refine W.yes 0 100000 (by kernel_rfl) ?_
        refine W.yes 0 100000 (by kernel_rfl) ?_
        refine W.yes 0 100000 (by kernel_rfl) ?_
        refine W.yes 0 100000 (by kernel_rfl) ?_
        refine W.yes 0 100000 (by kernel_rfl) ?_
        refine W.yes 0 100000 (by kernel_rfl) ?_
        refine W.yes 0 100000 (by kernel_rfl) ?_
        refine W.yes 0 100000 (by kernel_rfl) ?_
        refine W.yes 0 100000 (by kernel_rfl) ?_
        refine W.yes 0 100000 (by kernel_rfl) ?_
        exact W.retT 0 100000 h (by kernel_rfl)
      ·
        refine W.no 0 100000 (by kernel_rfl) ?_
        refine W.no 0 100000 (by kernel_rfl) ?_
        refine W.cond 0 100000 h (by kernel_rfl) (fun h => ?_) (fun h => ?_)
        ·
          refine W.yes 0 100000 (by kernel_rfl) ?_
          refine W.no 0 100000 (by kernel_rfl) ?_
          refine W.yes 0 100000 (by kernel_rfl) ?_
          refine W.no 0 100000 (by kernel_rfl) ?_
          refine W.cond 0 100000 h (by kernel_rfl) (fun h => ?_) (fun h => ?_)
          ·
            refine W.yes 0 100000 (by kernel_rfl) ?_
            refine W.yes 0 100000 (by kernel_rfl) ?_
            refine W.yes 0 100000 (by kernel_rfl) ?_
            refine W.yes 0 100000 (by kernel_rfl) ?_
            refine W.yes 0 100000 (by kernel_rfl) ?_
            refine W.yes 0 100000 (by kernel_rfl) ?_
            refine W.yes 0 100000 (by kernel_rfl) ?_
            refine W.yes 0 100000 (by kernel_rfl) ?_
            refine W.yes 0 100000 (by kernel_rfl) ?_
            refine W.yes 0 100000 (by kernel_rfl) ?_
            refine W.yes 0 100000 (by kernel_rfl) ?_
            refine W.yes 0 100000 (by kernel_rfl) ?_
            refine W.yes 0 100000 (by kernel_rfl) ?_
            refine W.yes 0 100000 (by kernel_rfl) ?_
            exact W.retT 0 100000 h (by kernel_rfl)
          ·
            refine W.no 0 100000 (by kernel_rfl) ?_
            refine W.no 0 100000 (by kernel_rfl) ?_
            refine W.cond 0 100000 h (by kernel_rfl) (fun h => ?_) (fun h => ?_)
            ·
              refine W.yes 0 100000 (by kernel_rfl) ?_
              refine W.no 0 100000 (by kernel_rfl) ?_
              refine W.yes 0 100000 (by kernel_rfl) ?_
              refine W.no 0 100000 (by kernel_rfl) ?_
              refine W.cond 0 100000 h (by kernel_rfl) (fun h => ?_) (fun h => ?_)
              ·
                refine W.yes 0 100000 (by kernel_rfl) ?_
                refine W.yes 0 100000 (by kernel_rfl) ?_
                refine W.yes 0 100000 (by kernel_rfl) ?_
                refine W.yes 0 100000 (by kernel_rfl) ?_
                refine W.yes 0 100000 (by kernel_rfl) ?_
                refine W.yes 0 100000 (by kernel_rfl) ?_
                refine W.yes 0 100000 (by kernel_rfl) ?_
                refine W.yes 0 100000 (by kernel_rfl) ?_
                refine W.yes 0 100000 (by kernel_rfl) ?_
                exact W.retT 0 100000 h (by kernel_rfl)
              ·
                refine W.no 0 100000 (by kernel_rfl) ?_
                refine W.no 0 100000 (by kernel_rfl) ?_
                refine W.cond 0 100000 h (by kernel_rfl) (fun h => ?_) (fun h => ?_)
                ·
                  refine W.yes 0 100000 (by kernel_rfl) ?_
                  refine W.no 0 100000 (by kernel_rfl) ?_
                  refine W.yes 0 100000 (by kernel_rfl) ?_
                  refine W.no 0 100000 (by kernel_rfl) ?_
                  refine W.cond 0 100000 h (by kernel_rfl) (fun h => ?_) (fun h => ?_)
                  ·
                    refine W.yes 0 100000 (by kernel_rfl) ?_
                    refine W.yes 0 100000 (by kernel_rfl) ?_
                    refine W.yes 0 100000 (by kernel_rfl) ?_
                    refine W.yes 0 100000 (by kernel_rfl) ?_
                    exact W.retT 0 100000 h (by kernel_rfl)
                  ·
                    refine W.no 0 100000 (by kernel_rfl) ?_
                    refine W.no 0 100000 (by kernel_rfl) ?_
                    refine W.cond 0 100000 h (by kernel_rfl) (fun h => ?_) (fun h => ?_)
                    ·
                      refine W.yes 0 100000 (by kernel_rfl) ?_
                      refine W.no 0 100000 (by kernel_rfl) ?_
                      refine W.yes 0 100000 (by kernel_rfl) ?_
                      refine W.no 0 100000 (by kernel_rfl) ?_
                      exact W.retT 0 100000 h (by kernel_rfl)
                    ·
                      refine W.no 0 100000 (by kernel_rfl) ?_
                      refine W.no 0 100000 (by kernel_rfl) ?_
                      refine W.no 0 100000 (by kernel_rfl) ?_
                      refine W.no 0 100000 (by kernel_rfl) ?_
                      exact W.retT 0 100000 h (by kernel_rfl)
                ·
                  refine W.no 0 100000 (by kernel_rfl) ?_
                  refine W.no 0 100000 (by kernel_rfl) ?_
                  refine W.no 0 100000 (by kernel_rfl) ?_
                  refine W.no 0 100000 (by kernel_rfl) ?_
                  refine W.no 0 100000 (by kernel_rfl) ?_
                  refine W.no 0 100000 (by kernel_rfl) ?_
                  refine W.no 0 100000 (by kernel_rfl) ?_
                  refine W.cond 0 100000 h (by kernel_rfl) (fun h => ?_) (fun h => ?_)
                  ·
                    refine W.yes 0 100000 (by kernel_rfl) ?_
                    refine W.no 0 100000 (by kernel_rfl) ?_
                    refine W.yes 0 100000 (by kernel_rfl) ?_
                    refine W.no 0 100000 (by kernel_rfl) ?_
                    exact W.retT 0 100000 h (by kernel_rfl)
                  ·
                    refine W.no 0 100000 (by kernel_rfl) ?_
                    refine W.no 0 100000 (by kernel_rfl) ?_
                    refine W.no 0 100000 (by kernel_rfl) ?_
                    refine W.no 0 100000 (by kernel_rfl) ?_
                    exact W.retT 0 100000 h (by kernel_rfl)
            ·
              refine W.no 0 100000 (by kernel_rfl) ?_
              refine W.no 0 100000 (by kernel_rfl) ?_
              refine W.no 0 100000 (by kernel_rfl) ?_
              refine W.no 0 100000 (by kernel_rfl) ?_
              refine W.no 0 100000 (by kernel_rfl) ?_
              refine W.no 0 100000 (by kernel_rfl) ?_
              refine W.no 0 100000 (by kernel_rfl) ?_
              refine W.cond 0 100000 h (by kernel_rfl) (fun h => ?_) (fun h => ?_)
              ·
                refine W.yes 0 100000 (by kernel_rfl) ?_
                refine W.no 0 100000 (by kernel_rfl) ?_
                refine W.yes 0 100000 (by kernel_rfl) ?_
                refine W.no 0 100000 (by kernel_rfl) ?_
                refine W.cond 0 100000 h (by kernel_rfl) (fun h => ?_) (fun h => ?_)
                ·
                  refine W.yes 0 100000 (by kernel_rfl) ?_
                  refine W.yes 0 100000 (by kernel_rfl) ?_
                  refine W.yes 0 100000 (by kernel_rfl) ?_
                  refine W.yes 0 100000 (by kernel_rfl) ?_
                  exact W.retT 0 100000 h (by kernel_rfl)
                ·
                  refine W.no 0 100000 (by kernel_rfl) ?_
                  refine W.no 0 100000 (by kernel_rfl) ?_
                  refine W.cond 0 100000 h (by kernel_rfl) (fun h => ?_) (fun h => ?_)
                  ·
                    refine W.yes 0 100000 (by kernel_rfl) ?_
                    refine W.no 0 100000 (by kernel_rfl) ?_
                    refine W.yes 0 100000 (by kernel_rfl) ?_
                    refine W.no 0 100000 (by kernel_rfl) ?_
                    exact W.retT 0 100000 h (by kernel_rfl)
                  ·
                    refine W.no 0 100000 (by kernel_rfl) ?_
                    refine W.no 0 100000 (by kernel_rfl) ?_
                    refine W.no 0 100000 (by kernel_rfl) ?_
                    refine W.no 0 100000 (by kernel_rfl) ?_
                    exact W.retT 0 100000 h (by kernel_rfl)
              ·
                refine W.no 0 100000 (by kernel_rfl) ?_
                refine W.no 0 100000 (by kernel_rfl) ?_
                refine W.no 0 100000 (by kernel_rfl) ?_
                refine W.no 0 100000 (by kernel_rfl) ?_
                refine W.no 0 100000 (by kernel_rfl) ?_
                refine W.no 0 100000 (by kernel_rfl) ?_
                refine W.no 0 100000 (by kernel_rfl) ?_
                refine W.cond 0 100000 h (by kernel_rfl) (fun h => ?_) (fun h => ?_)
                ·
                  refine W.yes 0 100000 (by kernel_rfl) ?_
                  refine W.no 0 100000 (by kernel_rfl) ?_
                  refine W.yes 0 100000 (by kernel_rfl) ?_
                  refine W.no 0 100000 (by kernel_rfl) ?_
                  exact W.retT 0 100000 h (by kernel_rfl)
                ·
                  refine W.no 0 100000 (by kernel_rfl) ?_
                  refine W.no 0 100000 (by kernel_rfl) ?_
                  refine W.no 0 100000 (by kernel_rfl) ?_
                  refine W.no 0 100000 (by kernel_rfl) ?_
                  exact W.retT 0 100000 h (by kernel_rfl)
        ·
          refine W.no 0 100000 (by kernel_rfl) ?_
          refine W.no 0 100000 (by kernel_rfl) ?_
          refine W.no 0 100000 (by kernel_rfl) ?_
          refine W.no 0 100000 (by kernel_rfl) ?_
          refine W.no 0 100000 (by kernel_rfl) ?_
          refine W.no 0 100000 (by kernel_rfl) ?_
          refine W.no 0 100000 (by kernel_rfl) ?_
          refine W.cond 0 100000 h (by kernel_rfl) (fun h => ?_) (fun h => ?_)
          ·
            refine W.yes 0 100000 (by kernel_rfl) ?_
            refine W.no 0 100000 (by kernel_rfl) ?_
            refine W.yes 0 100000 (by kernel_rfl) ?_
            refine W.no 0 100000 (by kernel_rfl) ?_
            refine W.cond 0 100000 h (by kernel_rfl) (fun h => ?_) (fun h => ?_)
            ·
              refine W.yes 0 100000 (by kernel_rfl) ?_
              refine W.yes 0 100000 (by kernel_rfl) ?_
              refine W.yes 0 100000 (by kernel_rfl) ?_
              refine W.yes 0 100000 (by kernel_rfl) ?_
              refine W.yes 0 100000 (by kernel_rfl) ?_
              refine W.yes 0 100000 (by kernel_rfl) ?_
              refine W.yes 0 100000 (by kernel_rfl) ?_
              refine W.yes 0 100000 (by kernel_rfl) ?_
              refine W.yes 0 100000 (by kernel_rfl) ?_
              exact W.retT 0 100000 h (by kernel_rfl)
            ·
              refine W.no 0 100000 (by kernel_rfl) ?_
              refine W.no 0 100000 (by kernel_rfl) ?_
              refine W.cond 0 100000 h (by kernel_rfl) (fun h => ?_) (fun h => ?_)
              ·
                refine W.yes 0 100000 (by kernel_rfl) ?_
                refine W.no 0 100000 (by kernel_rfl) ?_
                refine W.yes 0 100000 (by kernel_rfl) ?_
                refine W.no 0 100000 (by kernel_rfl) ?_
                refine W.cond 0 100000 h (by kernel_rfl) (fun h => ?_) (fun h => ?_)
                ·
                  refine W.yes 0 100000 (by kernel_rfl) ?_
                  refine W.yes 0 100000 (by kernel_rfl) ?_
                  refine W.yes 0 100000 (by kernel_rfl) ?_
                  refine W.yes 0 100000 (by kernel_rfl) ?_
                  exact W.retT 0 100000 h (by kernel_rfl)
                ·
                  refine W.no 0 100000 (by kernel_rfl) ?_
                  refine W.no 0 100000 (by kernel_rfl) ?_
                  refine W.cond 0 100000 h (by kernel_rfl) (fun h => ?_) (fun h => ?_)
                  ·
                    refine W.yes 0 100000 (by kernel_rfl) ?_
                    refine W.no 0 100000 (by kernel_rfl) ?_
                    refine W.yes 0 100000 (by kernel_rfl) ?_
                    refine W.no 0 100000 (by kernel_rfl) ?_
                    exact W.retT 0 100000 h (by kernel_rfl)
                  ·
                    refine W.no 0 100000 (by kernel_rfl) ?_
                    refine W.no 0 100000 (by kernel_rfl) ?_
                    refine W.no 0 100000 (by kernel_rfl) ?_
                    refine W.no 0 100000 (by kernel_rfl) ?_
                    exact W.retT 0 100000 h (by kernel_rfl)
              ·
                refine W.no 0 100000 (by kernel_rfl) ?_
                refine W.no 0 100000 (by kernel_rfl) ?_
                refine W.no 0 100000 (by kernel_rfl) ?_
                refine W.no 0 100000 (by kernel_rfl) ?_
                refine W.no 0 100000 (by kernel_rfl) ?_
                refine W.no 0 100000 (by kernel_rfl) ?_
                refine W.no 0 100000 (by kernel_rfl) ?_
                refine W.cond 0 100000 h (by kernel_rfl) (fun h => ?_) (fun h => ?_)
                ·
                  refine W.yes 0 100000 (by kernel_rfl) ?_
                  refine W.no 0 100000 (by kernel_rfl) ?_
                  refine W.yes 0 100000 (by kernel_rfl) ?_
                  refine W.no 0 100000 (by kernel_rfl) ?_
                  exact W.retT 0 100000 h (by kernel_rfl)
                ·
                  refine W.no 0 100000 (by kernel_rfl) ?_
                  refine W.no 0 100000 (by kernel_rfl) ?_
                  refine W.no 0 100000 (by kernel_rfl) ?_
                  refine W.no 0 100000 (by kernel_rfl) ?_
                  exact W.retT 0 100000 h (by kernel_rfl)
          ·
            refine W.no 0 100000 (by kernel_rfl) ?_
            refine W.no 0 100000 (by kernel_rfl) ?_
            refine W.no 0 100000 (by kernel_rfl) ?_
            refine W.no 0 100000 (by kernel_rfl) ?_
            refine W.no 0 100000 (by kernel_rfl) ?_
            refine W.no 0 100000 (by kernel_rfl) ?_
            refine W.no 0 100000 (by kernel_rfl) ?_
            refine W.cond 0 100000 h (by kernel_rfl) (fun h => ?_) (fun h => ?_)
            ·
              refine W.yes 0 100000 (by kernel_rfl) ?_
              refine W.no 0 100000 (by kernel_rfl) ?_
              refine W.yes 0 100000 (by kernel_rfl) ?_
              refine W.no 0 100000 (by kernel_rfl) ?_
              refine W.cond 0 100000 h (by kernel_rfl) (fun h => ?_) (fun h => ?_)
              ·
                refine W.yes 0 100000 (by kernel_rfl) ?_
                refine W.yes 0 100000 (by kernel_rfl) ?_
                refine W.yes 0 100000 (by kernel_rfl) ?_
                refine W.yes 0 100000 (by kernel_rfl) ?_
                exact W.retT 0 100000 h (by kernel_rfl)
              ·
                refine W.no 0 100000 (by kernel_rfl) ?_
                refine W.no 0 100000 (by kernel_rfl) ?_
                refine W.cond 0 100000 h (by kernel_rfl) (fun h => ?_) (fun h => ?_)
                ·
                  refine W.yes 0 100000 (by kernel_rfl) ?_
                  refine W.no 0 100000 (by kernel_rfl) ?_
                  refine W.yes 0 100000 (by kernel_rfl) ?_
                  refine W.no 0 100000 (by kernel_rfl) ?_
                  exact W.retT 0 100000 h (by kernel_rfl)
                ·
                  refine W.no 0 100000 (by kernel_rfl) ?_
                  refine W.no 0 100000 (by kernel_rfl) ?_
                  refine W.no 0 100000 (by kernel_rfl) ?_
                  refine W.no 0 100000 (by kernel_rfl) ?_
                  exact W.retT 0 100000 h (by kernel_rfl)
            ·
              refine W.no 0 100000 (by kernel_rfl) ?_
              refine W.no 0 100000 (by kernel_rfl) ?_
              refine W.no 0 100000 (by kernel_rfl) ?_
              refine W.no 0 100000 (by kernel_rfl) ?_
              refine W.no 0 100000 (by kernel_rfl) ?_
              refine W.no 0 100000 (by kernel_rfl) ?_
              refine W.no 0 100000 (by kernel_rfl) ?_
              refine W.cond 0 100000 h (by kernel_rfl) (fun h => ?_) (fun h => ?_)
              ·
                refine W.yes 0 100000 (by kernel_rfl) ?_
                refine W.no 0 100000 (by kernel_rfl) ?_
                refine W.yes 0 100000 (by kernel_rfl) ?_
                refine W.no 0 100000 (by kernel_rfl) ?_
                exact W.retT 0 100000 h (by kernel_rfl)
              ·
                refine W.no 0 100000 (by kernel_rfl) ?_
                refine W.no 0 100000 (by kernel_rfl) ?_
                refine W.no 0 100000 (by kernel_rfl) ?_
                refine W.no 0 100000 (by kernel_rfl) ?_
                exact W.retT 0 100000 h (by kernel_rfl)
    ·
      refine W.no 0 100000 (by kernel_rfl) ?_
      refine W.no 0 100000 (by kernel_rfl) ?_
      refine W.no 0 100000 (by kernel_rfl) ?_
      refine W.no 0 100000 (by kernel_rfl) ?_
      refine W.no 0 100000 (by kernel_rfl) ?_
      refine W.no 0 100000 (by kernel_rfl) ?_
      refine W.no 0 100000 (by kernel_rfl) ?_
      refine W.cond 0 100000 h (by kernel_rfl) (fun h => ?_) (fun h => ?_)
      ·
        refine W.yes 0 100000 (by kernel_rfl) ?_
        refine W.no 0 100000 (by kernel_rfl) ?_
        refine W.yes 0 100000 (by kernel_rfl) ?_
        refine W.no 0 100000 (by kernel_rfl) ?_
        refine W.cond 0 100000 h (by kernel_rfl) (fun h => ?_) (fun h => ?_)
        ·
          refine W.yes 0 100000 (by kernel_rfl) ?_
          refine W.yes 0 100000 (by kernel_rfl) ?_
          refine W.yes 0 100000 (by kernel_rfl) ?_
          refine W.yes 0 100000 (by kernel_rfl) ?_
          refine W.yes 0 100000 (by kernel_rfl) ?_
          refine W.yes 0 100000 (by kernel_rfl) ?_
          refine W.yes 0 100000 (by kernel_rfl) ?_
          refine W.yes 0 100000 (by kernel_rfl) ?_
          refine W.yes 0 100000 (by kernel_rfl) ?_
          refine W.yes 0 100000 (by kernel_rfl) ?_
          refine W.yes 0 100000 (by kernel_rfl) ?_
          refine W.yes 0 100000 (by kernel_rfl) ?_
          refine W.yes 0 100000 (by kernel_rfl) ?_
          refine W.yes 0 100000 (by kernel_rfl) ?_
          exact W.retT 0 100000 h (by kernel_rfl)
        ·
          refine W.no 0 100000 (by kernel_rfl) ?_
          refine W.no 0 100000 (by kernel_rfl) ?_
          refine W.cond 0 100000 h (by kernel_rfl) (fun h => ?_) (fun h => ?_)
          ·
            refine W.yes 0 100000 (by kernel_rfl) ?_
            refine W.no 0 100000 (by kernel_rfl) ?_
            refine W.yes 0 100000 (by kernel_rfl) ?_
            refine W.no 0 100000 (by kernel_rfl) ?_
            refine W.cond 0 100000 h (by kernel_rfl) (fun h => ?_) (fun h => ?_)
            ·
              refine W.yes 0 100000 (by kernel_rfl) ?_
              refine W.yes 0 100000 (by kernel_rfl) ?_
              refine W.yes 0 100000 (by kernel_rfl) ?_
              refine W.yes 0 100000 (by kernel_rfl) ?_
              refine W.yes 0 100000 (by kernel_rfl) ?_
              refine W.yes 0 100000 (by kernel_rfl) ?_
              refine W.yes 0 100000 (by kernel_rfl) ?_
              refine W.yes 0 100000 (by kernel_rfl) ?_
              refine W.yes 0 100000 (by kernel_rfl) ?_
              exact W.retT 0 100000 h (by kernel_rfl)
            ·
              refine W.no 0 100000 (by kernel_rfl) ?_
              refine W.no 0 100000 (by kernel_rfl) ?_
              refine W.cond 0 100000 h (by kernel_rfl) (fun h => ?_) (fun h => ?_)
              ·
                refine W.yes 0 100000 (by kernel_rfl) ?_
                refine W.no 0 100000 (by kernel_rfl) ?_
                refine W.yes 0 100000 (by kernel_rfl) ?_
                refine W.no 0 100000 (by kernel_rfl) ?_
                refine W.cond 0 100000 h (by kernel_rfl) (fun h => ?_) (fun h => ?_)
                ·
                  refine W.yes 0 100000 (by kernel_rfl) ?_
                  refine W.yes 0 100000 (by kernel_rfl) ?_
                  refine W.yes 0 100000 (by kernel_rfl) ?_
                  refine W.yes 0 100000 (by kernel_rfl) ?_
                  exact W.retT 0 100000 h (by kernel_rfl)
                ·
                  refine W.no 0 100000 (by kernel_rfl) ?_
                  refine W.no 0 100000 (by kernel_rfl) ?_
                  refine W.cond 0 100000 h (by kernel_rfl) (fun h => ?_) (fun h => ?_)
                  ·
                    refine W.yes 0 100000 (by kernel_rfl) ?_
                    refine W.no 0 100000 (by kernel_rfl) ?_
                    refine W.yes 0 100000 (by kernel_rfl) ?_
                    refine W.no 0 100000 (by kernel_rfl) ?_
                    exact W.retT 0 100000 h (by kernel_rfl)
                  ·
                    refine W.no 0 100000 (by kernel_rfl) ?_
                    refine W.no 0 100000 (by kernel_rfl) ?_
                    refine W.no 0 100000 (by kernel_rfl) ?_
                    refine W.no 0 100000 (by kernel_rfl) ?_
                    exact W.retT 0 100000 h (by kernel_rfl)
              ·
                refine W.no 0 100000 (by kernel_rfl) ?_
                refine W.no 0 100000 (by kernel_rfl) ?_
                refine W.no 0 100000 (by kernel_rfl) ?_
                refine W.no 0 100000 (by kernel_rfl) ?_
                refine W.no 0 100000 (by kernel_rfl) ?_
                refine W.no 0 100000 (by kernel_rfl) ?_
                refine W.no 0 100000 (by kernel_rfl) ?_
                refine W.cond 0 100000 h (by kernel_rfl) (fun h => ?_) (fun h => ?_)
                ·
                  refine W.yes 0 100000 (by kernel_rfl) ?_
                  refine W.no 0 100000 (by kernel_rfl) ?_
                  refine W.yes 0 100000 (by kernel_rfl) ?_
                  refine W.no 0 100000 (by kernel_rfl) ?_
                  exact W.retT 0 100000 h (by kernel_rfl)
                ·
                  refine W.no 0 100000 (by kernel_rfl) ?_
                  refine W.no 0 100000 (by kernel_rfl) ?_
                  refine W.no 0 100000 (by kernel_rfl) ?_
                  refine W.no 0 100000 (by kernel_rfl) ?_
                  exact W.retT 0 100000 h (by kernel_rfl)
          ·
            refine W.no 0 100000 (by kernel_rfl) ?_
            refine W.no 0 100000 (by kernel_rfl) ?_
            refine W.no 0 100000 (by kernel_rfl) ?_
            refine W.no 0 100000 (by kernel_rfl) ?_
            refine W.no 0 100000 (by kernel_rfl) ?_
            refine W.no 0 100000 (by kernel_rfl) ?_
            refine W.no 0 100000 (by kernel_rfl) ?_
            refine W.cond 0 100000 h (by kernel_rfl) (fun h => ?_) (fun h => ?_)
            ·
              refine W.yes 0 100000 (by kernel_rfl) ?_
              refine W.no 0 100000 (by kernel_rfl) ?_
              refine W.yes 0 100000 (by kernel_rfl) ?_
              refine W.no 0 100000 (by kernel_rfl) ?_
              refine W.cond 0 100000 h (by kernel_rfl) (fun h => ?_) (fun h => ?_)
              ·
                refine W.yes 0 100000 (by kernel_rfl) ?_
                refine W.yes 0 100000 (by kernel_rfl) ?_
                refine W.yes 0 100000 (by kernel_rfl) ?_
                refine W.yes 0 100000 (by kernel_rfl) ?_
                exact W.retT 0 100000 h (by kernel_rfl)
              ·
                refine W.no 0 100000 (by kernel_rfl) ?_
                refine W.no 0 100000 (by kernel_rfl) ?_
                refine W.cond 0 100000 h (by kernel_rfl) (fun h => ?_) (fun h => ?_)
                ·
                  refine W.yes 0 100000 (by kernel_rfl) ?_
                  refine W.no 0 100000 (by kernel_rfl) ?_
                  refine W.yes 0 100000 (by kernel_rfl) ?_
                  refine W.no 0 100000 (by kernel_rfl) ?_
                  exact W.retT 0 100000 h (by kernel_rfl)
                ·
                  refine W.no 0 100000 (by kernel_rfl) ?_
                  refine W.no 0 100000 (by kernel_rfl) ?_
                  refine W.no 0 100000 (by kernel_rfl) ?_
                  refine W.no 0 100000 (by kernel_rfl) ?_
                  exact W.retT 0 100000 h (by kernel_rfl)
            ·
              refine W.no 0 100000 (by kernel_rfl) ?_
              refine W.no 0 100000 (by kernel_rfl) ?_
              refine W.no 0 100000 (by kernel_rfl) ?_
              refine W.no 0 100000 (by kernel_rfl) ?_
              refine W.no 0 100000 (by kernel_rfl) ?_
              refine W.no 0 100000 (by kernel_rfl) ?_
              refine W.no 0 100000 (by kernel_rfl) ?_
              refine W.cond 0 100000 h (by kernel_rfl) (fun h => ?_) (fun h => ?_)
              ·
                refine W.yes 0 100000 (by kernel_rfl) ?_
                refine W.no 0 100000 (by kernel_rfl) ?_
                refine W.yes 0 100000 (by kernel_rfl) ?_
                refine W.no 0 100000 (by kernel_rfl) ?_
                exact W.retT 0 100000 h (by kernel_rfl)
              ·
                refine W.no 0 100000 (by kernel_rfl) ?_
                refine W.no 0 100000 (by kernel_rfl) ?_
                refine W.no 0 100000 (by kernel_rfl) ?_
                refine W.no 0 100000 (by kernel_rfl) ?_
                exact W.retT 0 100000 h (by kernel_rfl)
      ·
        refine W.no 0 100000 (by kernel_rfl) ?_
        refine W.no 0 100000 (by kernel_rfl) ?_
        refine W.no 0 100000 (by kernel_rfl) ?_
        refine W.no 0 100000 (by kernel_rfl) ?_
        refine W.no 0 100000 (by kernel_rfl) ?_
        refine W.no 0 100000 (by kernel_rfl) ?_
        refine W.no 0 100000 (by kernel_rfl) ?_
        refine W.cond 0 100000 h (by kernel_rfl) (fun h => ?_) (fun h => ?_)
        ·
          refine W.yes 0 100000 (by kernel_rfl) ?_
          refine W.no 0 100000 (by kernel_rfl) ?_
          refine W.yes 0 100000 (by kernel_rfl) ?_
          refine W.no 0 100000 (by kernel_rfl) ?_
          refine W.cond 0 100000 h (by kernel_rfl) (fun h => ?_) (fun h => ?_)
          ·
            refine W.yes 0 100000 (by kernel_rfl) ?_
            refine W.yes 0 100000 (by kernel_rfl) ?_
            refine W.yes 0 100000 (by kernel_rfl) ?_
            refine W.yes 0 100000 (by kernel_rfl) ?_
            refine W.yes 0 100000 (by kernel_rfl) ?_
            refine W.yes 0 100000 (by kernel_rfl) ?_
            refine W.yes 0 100000 (by kernel_rfl) ?_
            refine W.yes 0 100000 (by kernel_rfl) ?_
            refine W.yes 0 100000 (by kernel_rfl) ?_
            exact W.retT 0 100000 h (by kernel_rfl)
          ·
            refine W.no 0 100000 (by kernel_rfl) ?_
            refine W.no 0 100000 (by kernel_rfl) ?_
            refine W.cond 0 100000 h (by kernel_rfl) (fun h => ?_) (fun h => ?_)
            ·
              refine W.yes 0 100000 (by kernel_rfl) ?_
              refine W.no 0 100000 (by kernel_rfl) ?_
              refine W.yes 0 100000 (by kernel_rfl) ?_
              refine W.no 0 100000 (by kernel_rfl) ?_
              refine W.cond 0 100000 h (by kernel_rfl) (fun h => ?_) (fun h => ?_)
              ·
                refine W.yes 0 100000 (by kernel_rfl) ?_
                refine W.yes 0 100000 (by kernel_rfl) ?_
                refine W.yes 0 100000 (by kernel_rfl) ?_
                refine W.yes 0 100000 (by kernel_rfl) ?_
                exact W.retT 0 100000 h (by kernel_rfl)
              ·
                refine W.no 0 100000 (by kernel_rfl) ?_
                refine W.no 0 100000 (by kernel_rfl) ?_
                refine W.cond 0 100000 h (by kernel_rfl) (fun h => ?_) (fun h => ?_)
                ·
                  refine W.yes 0 100000 (by kernel_rfl) ?_
                  refine W.no 0 100000 (by kernel_rfl) ?_
                  refine W.yes 0 100000 (by kernel_rfl) ?_
                  refine W.no 0 100000 (by kernel_rfl) ?_
                  exact W.retT 0 100000 h (by kernel_rfl)
                ·
                  refine W.no 0 100000 (by kernel_rfl) ?_
                  refine W.no 0 100000 (by kernel_rfl) ?_
                  refine W.no 0 100000 (by kernel_rfl) ?_
                  refine W.no 0 100000 (by kernel_rfl) ?_
                  exact W.retT 0 100000 h (by kernel_rfl)
            ·
              refine W.no 0 100000 (by kernel_rfl) ?_
              refine W.no 0 100000 (by kernel_rfl) ?_
              refine W.no 0 100000 (by kernel_rfl) ?_
              refine W.no 0 100000 (by kernel_rfl) ?_
              refine W.no 0 100000 (by kernel_rfl) ?_
              refine W.no 0 100000 (by kernel_rfl) ?_
              refine W.no 0 100000 (by kernel_rfl) ?_
              refine W.cond 0 100000 h (by kernel_rfl) (fun h => ?_) (fun h => ?_)
              ·
                refine W.yes 0 100000 (by kernel_rfl) ?_
                refine W.no 0 100000 (by kernel_rfl) ?_
                refine W.yes 0 100000 (by kernel_rfl) ?_
                refine W.no 0 100000 (by kernel_rfl) ?_
                exact W.retT 0 100000 h (by kernel_rfl)
              ·
                refine W.no 0 100000 (by kernel_rfl) ?_
                refine W.no 0 100000 (by kernel_rfl) ?_
                refine W.no 0 100000 (by kernel_rfl) ?_
                refine W.no 0 100000 (by kernel_rfl) ?_
                exact W.retT 0 100000 h (by kernel_rfl)
        ·
          refine W.no 0 100000 (by kernel_rfl) ?_
          refine W.no 0 100000 (by kernel_rfl) ?_
          refine W.no 0 100000 (by kernel_rfl) ?_
          refine W.no 0 100000 (by kernel_rfl) ?_
          refine W.no 0 100000 (by kernel_rfl) ?_
          refine W.no 0 100000 (by kernel_rfl) ?_
          refine W.no 0 100000 (by kernel_rfl) ?_
          refine W.cond 0 100000 h (by kernel_rfl) (fun h => ?_) (fun h => ?_)
          ·
            refine W.yes 0 100000 (by kernel_rfl) ?_
            refine W.no 0 100000 (by kernel_rfl) ?_
            refine W.yes 0 100000 (by kernel_rfl) ?_
            refine W.no 0 100000 (by kernel_rfl) ?_
            refine W.cond 0 100000 h (by kernel_rfl) (fun h => ?_) (fun h => ?_)
            ·
              refine W.yes 0 100000 (by kernel_rfl) ?_
              refine W.yes 0 100000 (by kernel_rfl) ?_
              refine W.yes 0 100000 (by kernel_rfl) ?_
              refine W.yes 0 100000 (by kernel_rfl) ?_
              exact W.retT 0 100000 h (by kernel_rfl)
            ·
              refine W.no 0 100000 (by kernel_rfl) ?_
              refine W.no 0 100000 (by kernel_rfl) ?_
              refine W.cond 0 100000 h (by kernel_rfl) (fun h => ?_) (fun h => ?_)
              ·
                refine W.yes 0 100000 (by kernel_rfl) ?_
                refine W.no 0 100000 (by kernel_rfl) ?_
                refine W.yes 0 100000 (by kernel_rfl) ?_
                refine W.no 0 100000 (by kernel_rfl) ?_
                exact W.retT 0 100000 h (by kernel_rfl)
              ·
                refine W.no 0 100000 (by kernel_rfl) ?_
                refine W.no 0 100000 (by kernel_rfl) ?_
                refine W.no 0 100000 (by kernel_rfl) ?_
                refine W.no 0 100000 (by kernel_rfl) ?_
                exact W.retT 0 100000 h (by kernel_rfl)
          ·
            refine W.no 0 100000 (by kernel_rfl) ?_
            refine W.no 0 100000 (by kernel_rfl) ?_
            refine W.no 0 100000 (by kernel_rfl) ?_
            refine W.no 0 100000 (by kernel_rfl) ?_
            refine W.no 0 100000 (by kernel_rfl) ?_
            refine W.no 0 100000 (by kernel_rfl) ?_
            refine W.no 0 100000 (by kernel_rfl) ?_
            refine W.cond 0 100000 h (by kernel_rfl) (fun h => ?_) (fun h => ?_)
            ·
              refine W.yes 0 100000 (by kernel_rfl) ?_
              refine W.no 0 100000 (by kernel_rfl) ?_
              refine W.yes 0 100000 (by kernel_rfl) ?_
              refine W.no 0 100000 (by kernel_rfl) ?_
              exact W.retT 0 100000 h (by kernel_rfl)
            ·
              refine W.no 0 100000 (by kernel_rfl) ?_
              refine W.no 0 100000 (by kernel_rfl) ?_
              refine W.no 0 100000 (by kernel_rfl) ?_
              refine W.no 0 100000 (by kernel_rfl) ?_
              exact W.retT 0 100000 h (by kernel_rfl)

theorem path_Name_con {s_476 : List UInt8} {r : Bool} (h : path_Name s_476 = some r) : Con Go.Proofs.Tryd.prog 34 [AV.str s_476] [] (path_Name_res r) (path_Name_out r) := by
  refine W.con (by kernel_rfl) ?_
  unfold path_Name at h
  refine W.join (fun t => (Sum.elim (fun t_477 => r = (Bool.false)) (fun t_478 => Walk Go.Proofs.Tryd.prog 34 (Cfg.mk Mode.run (seqTodo Go.Proofs.Tryd.prog 34 1) (St.mk [AV.str s_476, jj, jj, jj, jj, jj, jj, jj, jj, jj, jj, jj, jj, jj, jj, jj, jj, jj, jj, jj, jj, jj, jj, jj, jj, jj, jj, jj, jj, jj, jj, jj, jj, jj, jj, jj, jj, jj, jj, jj, jj, jj, jj, jj, jj, jj, jj, jj, jj, jj, jj, jj, jj, jj, jj] [] (0 : Nat))) (path_Name_res r) (path_Name_out r))) t) h (fun t h => ?_) (fun t489 h489 K489 => ?_)
  ·
    rcases t with t_477 | t_478
    · replace h := W.inl (h)
      refine W.elimL (?_)
      exact (Option.some.inj h).symm
    · replace h := W.inr (h)
      refine W.elimR (?_)
      refine W.at 0 100000 [] [0, 15, 16] (c' := (fun (s_492 : Int) => (Cfg.mk Mode.run (headTodo Go.Proofs.Tryd.prog 34 0) (St.mk [AV.str s_476, jj, jj, jj, jj, jj, jj, jj, jj, jj, jj, jj, jj, jj, jj, AV.int IntKind.i64 (↑(List.length s_476) : Int), AV.int IntKind.i64 s_492, jj, jj, jj, jj, jj, jj, jj, jj, jj, jj, jj, jj, jj, jj, jj, jj, jj, jj, jj, jj, jj, jj, jj, jj, jj, jj, jj, jj, jj, jj, jj, jj, jj, jj, jj, jj, jj, jj] [] (0 : Nat)))) ((0 : Int))) (by kernel_rfl) ?_
      refine W.loop (fun (s_492 : Int) => (Cfg.mk Mode.run (headTodo Go.Proofs.Tryd.prog 34 0) (St.mk [AV.str s_476, jj, jj, jj, jj, jj, jj, jj, jj, jj, jj, jj, jj, jj, jj, AV.int IntKind.i64 (↑(List.length s_476) : Int), AV.int IntKind.i64 s_492, jj, jj, jj, jj, jj, jj, jj, jj, jj, jj, jj, jj, jj, jj, jj, jj, jj, jj, jj, jj, jj, jj, jj, jj, jj, jj, jj, jj, jj, jj, jj, jj, jj, jj, jj, jj, jj, jj] [] (0 : Nat)))) (fun t => (Sum.elim (fun t_485 => r = (Bool.false)) (fun t_486 => Walk Go.Proofs.Tryd.prog 34 (Cfg.mk Mode.run ((headTodo Go.Proofs.Tryd.prog 34 0).drop 3) (St.mk [jj, jj, jj, jj, jj, jj, jj, jj, jj, jj, jj, jj, jj, jj, jj, jj, jj, jj, jj, jj, jj, jj, jj, jj, jj, jj, jj, jj, jj, jj, jj, jj, jj, jj, jj, jj, jj, jj, jj, jj, jj, jj, jj, jj, jj, jj, jj, jj, jj, jj, jj, jj, jj, jj, jj] [] (0 : Nat))) (path_Name_res r) (path_Name_out r))) t) h (fun t h => ?_) (fun s_492 x488 h488 K488 => ?_)
      ·
        rcases t with t_485 | t_486
        · replace h := W.inl (h)
          refine W.elimL (?_)
          exact (Option.some.inj h).symm
        · replace h := W.inr (h)
          refine W.elimR (?_)
          exact W.retT 0 100000 h (by kernel_rfl)
      · unfold path_Name_b0 at h488
        refine W.cond 2 100000 h488 (by kernel_rfl) (fun h488 => ?_) (fun h488 => ?_)
        ·
          refine W.needT 2 100000 h488 (by kernel_rfl) (fun h488 => ?_)
          refine W.join (fun t_483 => Walk Go.Proofs.Tryd.prog 34 (Cfg.mk Mode.run (seqTodo Go.Proofs.Tryd.prog 34 11) (St.mk [AV.str s_476, jj, jj, AV.int IntKind.i64 s_492, AV.int IntKind.u8 (↑(UInt8.toNat (List.getD s_476 (Int.toNat s_492) (0 : UInt8))) : Int), AV.bool t_483, jj, jj, jj, jj, jj, jj, jj, jj, jj, AV.int IntKind.i64 (↑(List.length s_476) : Int), AV.int IntKind.i64 s_492, jj, jj, jj, jj, jj, jj, jj, jj, jj, jj, jj, jj, jj, jj, jj, jj, jj, jj, jj, jj, jj, jj, jj, jj, jj, jj, jj, jj, jj, jj, jj, jj, jj, jj, jj, jj, jj, jj] [] (0 : Nat))) (path_Name_res r) (path_Name_out r)) h488 (fun t_483 h488 => ?_) (fun t485 h485 K485 => ?_)
          ·
            refine W.cond 2 100000 h488 (by kernel_rfl) (fun h488 => ?_) (fun h488 => ?_)
            ·
              refine W.yes 2 100000 (by kernel_rfl) ?_
              refine W.yes 2 100000 (by kernel_rfl) ?_
              refine W.cond 2 100000 h488 (by kernel_rfl) (fun h488 => ?_) (fun h488 => ?_)
              ·
                refine W.yes 2 100000 (by kernel_rfl) ?_
                refine W.yes 2 100000 (by kernel_rfl) ?_
                refine W.yes 2 100000 (by kernel_rfl) ?_
                refine W.yes 2 100000 (by kernel_rfl) ?_
                refine W.yes 2 100000 (by kernel_rfl) ?_
                refine W.yes 2 100000 (by kernel_rfl) ?_
                refine W.yes 2 100000 (by kernel_rfl) ?_
                refine W.yes 2 100000 (by kernel_rfl) ?_
                refine W.yes 2 100000 (by kernel_rfl) ?_
                cases h488; exact W.retK 2 100000 K488 (by kernel_rfl)
              ·
                refine W.no 2 100000 (by kernel_rfl) ?_
                refine W.no 2 100000 (by kernel_rfl) ?_
                refine W.cond 2 100000 h488 (by kernel_rfl) (fun h488 => ?_) (fun h488 => ?_)
                ·
                  refine W.yes 2 100000 (by kernel_rfl) ?_
                  refine W.no 2 100000 (by kernel_rfl) ?_
                  refine W.yes 2 100000 (by kernel_rfl) ?_
                  refine W.no 2 100000 (by kernel_rfl) ?_
                  refine W.cond 2 100000 h488 (by kernel_rfl) (fun h488 => ?_) (fun h488 => ?_)
                  ·
                    refine W.yes 2 100000 (by kernel_rfl) ?_
                    refine W.no 2 100000 (by kernel_rfl) ?_
                    refine W.yes 2 100000 (by kernel_rfl) ?_
                    refine W.yes 2 100000 (by kernel_rfl) ?_
                    refine W.no 2 100000 (by kernel_rfl) ?_
                    refine W.yes 2 100000 (by kernel_rfl) ?_
                    refine W.cond 2 100000 h488 (by kernel_rfl) (fun h488 => ?_) (fun h488 => ?_)
                    ·
                      cases h488; exact W.retK 2 100000 K488 (by kernel_rfl)
                    ·
                      cases h488; exact W.at 2 100000 [] [0, 15, 16] (by kernel_rfl) K488
                  ·
                    refine W.no 2 100000 (by kernel_rfl) ?_
                    refine W.no 2 100000 (by kernel_rfl) ?_
                    refine W.no 2 100000 (by kernel_rfl) ?_
                    refine W.yes 2 100000 (by kernel_rfl) ?_
                    refine W.no 2 100000 (by kernel_rfl) ?_
                    refine W.yes 2 100000 (by kernel_rfl) ?_
                    refine W.no 2 100000 (by kernel_rfl) ?_
                    cases h488; exact W.at 2 100000 [] [0, 15, 16] (by kernel_rfl) K488
                ·
                  refine W.no 2 100000 (by kernel_rfl) ?_
                  refine W.no 2 100000 (by kernel_rfl) ?_
                  refine W.no 2 100000 (by kernel_rfl) ?_
                  refine W.no 2 100000 (by kernel_rfl) ?_
                  refine W.no 2 100000 (by kernel_rfl) ?_
                  refine W.no 2 100000 (by kernel_rfl) ?_
                  refine W.no 2 100000 (by kernel_rfl) ?_
                  refine W.no 2 100000 (by kernel_rfl) ?_
                  refine W.yes 2 100000 (by kernel_rfl) ?_
                  refine W.no 2 100000 (by kernel_rfl) ?_
                  refine W.yes 2 100000 (by kernel_rfl) ?_
                  refine W.no 2 100000 (by kernel_rfl) ?_
                  cases h488; exact W.at 2 100000 [] [0, 15, 16] (by kernel_rfl) K488
            ·
              refine W.no 2 100000 (by kernel_rfl) ?_
              refine W.no 2 100000 (by kernel_rfl) ?_
              refine W.no 2 100000 (by kernel_rfl) ?_
              refine W.no 2 100000 (by kernel_rfl) ?_
              refine W.no 2 100000 (by kernel_rfl) ?_
              cases h488; exact W.at 2 100000 [] [0, 15, 16] (by kernel_rfl) K488
          · refine W.next 2 3 (by kernel_rfl) ?_
            refine W.cond 6 100000 h485 (by kernel_rfl) (fun h485 => ?_) (fun h485 => ?_)
            ·
              refine W.yes 6 100000 (by kernel_rfl) ?_
              refine W.yes 6 100000 (by kernel_rfl) ?_
              refine W.cond 6 100000 h485 (by kernel_rfl) (fun h485 => ?_) (fun h485 => ?_)
              ·
                refine W.yes 6 100000 (by kernel_rfl) ?_
                refine W.yes 6 100000 (by kernel_rfl) ?_
                refine W.yes 6 100000 (by kernel_rfl) ?_
                refine W.yes 6 100000 (by kernel_rfl) ?_
                cases h485; exact W.at 6 100000 [] [0, 3, 4, 5, 15, 16] (by kernel_rfl) K485
              ·
                refine W.no 6 100000 (by kernel_rfl) ?_
                refine W.no 6 100000 (by kernel_rfl) ?_
                refine W.cond 6 100000 h485 (by kernel_rfl) (fun h485 => ?_) (fun h485 => ?_)
                ·
                  refine W.yes 6 100000 (by kernel_rfl) ?_
                  refine W.no 6 100000 (by kernel_rfl) ?_
                  refine W.yes 6 100000 (by kernel_rfl) ?_
                  refine W.no 6 100000 (by kernel_rfl) ?_
                  cases h485; exact W.at 6 100000 [] [0, 3, 4, 5, 15, 16] (by kernel_rfl) K485
                ·
                  refine W.no 6 100000 (by kernel_rfl) ?_
                  refine W.no 6 100000 (by kernel_rfl) ?_
                  refine W.no 6 100000 (by kernel_rfl) ?_
                  refine W.no 6 100000 (by kernel_rfl) ?_
                  cases h485; exact W.at 6 100000 [] [0, 3, 4, 5, 15, 16] (by kernel_rfl) K485
            ·
              refine W.no 6 100000 (by kernel_rfl) ?_
              refine W.no 6 100000 (by kernel_rfl) ?_
              refine W.no 6 100000 (by kernel_rfl) ?_
              refine W.no 6 100000 (by kernel_rfl) ?_
              refine W.no 6 100000 (by kernel_rfl) ?_
              refine W.cond 6 100000 h485 (by kernel_rfl) (fun h485 => ?_) (fun h485 => ?_)
              ·
                refine W.yes 6 100000 (by kernel_rfl) ?_
                refine W.no 6 100000 (by kernel_rfl) ?_
                refine W.yes 6 100000 (by kernel_rfl) ?_
                refine W.no 6 100000 (by kernel_rfl) ?_
                cases h485; exact W.at 6 100000 [] [0, 3, 4, 5, 15, 16] (by kernel_rfl) K485
              ·
                refine W.no 6 100000 (by kernel_rfl) ?_
                refine W.no 6 100000 (by kernel_rfl) ?_
                refine W.no 6 100000 (by kernel_rfl) ?_
                refine W.no 6 100000 (by kernel_rfl) ?_
                cases h485; exact W.at 6 100000 [] [0, 3, 4, 5, 15, 16] (by kernel_rfl) K485
        ·
          cases h488; exact W.at 2 100000 [] [] (by kernel_rfl) K488
  · refine W.next 0 5 (by kernel_rfl) ?_
    refine W.cond 1 100000 h489 (by kernel_rfl) (fun h489 => ?_) (fun h489 => ?_)
    ·
      refine W.yes 1 100000 (by kernel_rfl) ?_
      refine W.yes 1 100000 (by kernel_rfl) ?_
      refine W.yes 1 100000 (by kernel_rfl) ?_
      refine W.yes 1 100000 (by kernel_rfl) ?_
      cases h489; exact W.retK 1 100000 K489 (by kernel_rfl)
    ·
      refine W.no 1 100000 (by kernel_rfl) ?_
      refine W.no 1 100000 (by kernel_rfl) ?_
      refine W.no 1 100000 (by kernel_rfl) ?_
      refine W.cond 1 100000 h489 (by kernel_rfl) (fun h489 => ?_) (fun h489 => ?_)
      ·
        cases h489; exact W.retK 1 100000 K489 (by kernel_rfl)
      ·
        cases h489; exact W.at 1 100000 [] [0] (by kernel_rfl) K489

theorem cellarerref02_Name_con {s_494 : List UInt8} {r : Bool} (h : cellarerref02_Name s_494 = some r) : Con Go.Proofs.Tryd.prog 36 [AV.str s_494] [] (cellarerref02_Name_res r) (cellarerref02_Name_out r) := by
  refine W.con (by kernel_rfl) ?_
  unfold cellarerref02_Name at h
  refine W.at 0 100000 [] [0, 3] (c' := (fun (s_512 : Int) => (Cfg.mk Mode.run (headTodo Go.Proofs.Tryd.prog 36 0) (St.mk [AV.str s_494, jj, jj, AV.int IntKind.i64 s_512, jj, jj, jj, jj, jj, jj, jj, jj, jj, jj, jj, jj, jj, jj, jj, jj, jj, jj, jj, jj, jj, jj, jj, jj, jj, jj, jj, jj, jj, jj, jj, jj, jj, jj, jj, jj, jj, jj, jj, jj, jj, jj, jj, jj, jj, jj, jj, jj, jj, jj, jj, jj, jj, jj, jj, jj, jj, jj, jj, jj] [] (0 : Nat)))) ((0 : Int))) (by kernel_rfl) ?_
  refine W.loop (fun (s_512 : Int) => (Cfg.mk Mode.run (headTodo Go.Proofs.Tryd.prog 36 0) (St.mk [AV.str s_494, jj, jj, AV.int IntKind.i64 s_512, jj, jj, jj, jj, jj, jj, jj, jj, jj, jj, jj, jj, jj, jj, jj, jj, jj, jj, jj, jj, jj, jj, jj, jj, jj, jj, jj, jj, jj, jj, jj, jj, jj, jj, jj, jj, jj, jj, jj, jj, jj, jj, jj, jj, jj, jj, jj, jj, jj, jj, jj, jj, jj, jj, jj, jj, jj, jj, jj, jj] [] (0 : Nat)))) (fun t => (Sum.elim (fun t_506 => r = (Bool.false)) (fun t_507 => Walk Go.Proofs.Tryd.prog 36 (Cfg.mk Mode.run ((headTodo Go.Proofs.Tryd.prog 36 0).drop 3) (St.mk [AV.str s_494, jj, jj, jj, jj, jj, jj, jj, jj, jj, jj, jj, jj, jj, jj, jj, jj, jj, jj, jj, jj, jj, jj, jj, jj, jj, jj, jj, jj, jj, jj, jj, jj, jj, jj, jj, jj, jj, jj, jj, jj, jj, jj, jj, jj, jj, jj, jj, jj, jj, jj, jj, jj, jj, jj, jj, jj, jj, jj, jj, jj, jj, jj, jj] [] (0 : Nat))) (cellarerref02_Name_res r) (cellarerref02_Name_out r))) t) h (fun t h => ?_) (fun s_512 x509 h509 K509 => ?_)
  ·
    rcases t with t_506 | t_507
    · replace h := W.inl (h)
      refine W.elimL (?_)
      exact (Option.some.inj h).symm
    · replace h := W.inr (h)
      refine W.elimR (?_)
      refine W.cond 0 100000 h (by kernel_rfl) (fun h => ?_) (fun h => ?_)
      ·
        refine W.yes 0 100000 (by kernel_rfl) ?_
        refine W.yes 0 100000 (by kernel_rfl) ?_
        refine W.yes 0 100000 (by kernel_rfl) ?_
        exact W.retT 0 100000 h (by kernel_rfl)
      ·
        refine W.no 0 100000 (by kernel_rfl) ?_
        refine W.no 0 100000 (by kernel_rfl) ?_
        refine W.no 0 100000 (by kernel_rfl) ?_
        exact W.retT 0 100000 h (by kernel_rfl)
  · unfold cellarerref02_Name_b0 at h509
    refine W.cond 2 100000 h509 (by kernel_rfl) (fun h509 => ?_) (fun h509 => ?_)
    ·
      refine W.needT 2 100000 h509 (by kernel_rfl) (fun h509 => ?_)
      refine W.join (fun t_498 => Walk Go.Proofs.Tryd.prog 36 (Cfg.mk Mode.run (seqTodo Go.Proofs.Tryd.prog 36 7) (St.mk [AV.str s_494, jj, jj, AV.int IntKind.i64 s_512, AV.int IntKind.u8 (↑(UInt8.toNat (List.getD s_494 (Int.toNat s_512) (0 : UInt8))) : Int), AV.bool t_498, jj, jj, jj, jj, jj, jj, jj, jj, jj, jj, jj, jj, jj, jj, jj, jj, jj, jj, jj, jj, jj, jj, jj, jj, jj, jj, jj, jj, jj, jj, jj, jj, jj, jj, jj, jj, jj, jj, jj, jj, jj, jj, jj, jj, jj, jj, jj, jj, jj, jj, jj, jj, jj, jj, jj, jj, jj, jj] [] (0 : Nat))) (cellarerref02_Name_res r) (cellarerref02_Name_out r)) h509 (fun t_498 h509 => ?_) (fun t506 h506 K506 => ?_)
      ·
        refine W.join (fun t_500 => Walk Go.Proofs.Tryd.prog 36 (Cfg.mk Mode.run (seqTodo Go.Proofs.Tryd.prog 36 8) (St.mk [AV.str s_494, jj, jj, AV.int IntKind.i64 s_512, AV.int IntKind.u8 (↑(UInt8.toNat (List.getD s_494 (Int.toNat s_512) (0 : UInt8))) : Int), AV.bool t_498, AV.bool t_500, jj, jj, jj, jj, jj, jj, jj, jj, jj, jj, jj, jj, jj, jj, jj, jj, jj, jj, jj, jj, jj, jj, jj, jj, jj, jj, jj, jj, jj, jj, jj, jj, jj, jj, jj, jj, jj, jj, jj, jj, jj, jj, jj, jj, jj, jj, jj, jj, jj, jj, jj, jj, jj, jj, jj, jj, jj] [] (0 : Nat))) (cellarerref02_Name_res r) (cellarerref02_Name_out r)) h509 (fun t_500 h509 => ?_) (fun t505 h505 K505 => ?_)
        ·
          refine W.join (fun t_502 => Walk Go.Proofs.Tryd.prog 36 (Cfg.mk Mode.run (seqTodo Go.Proofs.Tryd.prog 36 9) (St.mk [AV.str s_494, jj, jj, AV.int IntKind.i64 s_512, jj, AV.bool t_498, AV.bool t_500, AV.bool t_502, jj, jj, jj, jj, jj, jj, jj, jj, jj, jj, jj, jj, jj, jj, jj, jj, jj, jj, jj, jj, jj, jj, jj, jj, jj, jj, jj, jj, jj, jj, jj, jj, jj, jj, jj, jj, jj, jj, jj, jj, jj, jj, jj, jj, jj, jj, jj, jj, jj, jj, jj, jj, jj, jj, jj, jj] [] (0 : Nat))) (cellarerref02_Name_res r) (cellarerref02_Name_out r)) h509 (fun t_502 h509 => ?_) (fun t504 h504 K504 => ?_)
          ·
            refine W.cond 2 100000 h509 (by kernel_rfl) (fun h509 => ?_) (fun h509 => ?_)
            ·
              refine W.yes 2 100000 (by kernel_rfl) ?_
              refine W.yes 2 100000 (by kernel_rfl) ?_
              refine W.cond 2 100000 h509 (by kernel_rfl) (fun h509 => ?_) (fun h509 => ?_)
              ·
                refine W.yes 2 100000 (by kernel_rfl) ?_
                refine W.yes 2 100000 (by kernel_rfl) ?_
                refine W.cond 2 100000 h509 (by kernel_rfl) (fun h509 => ?_) (fun h509 => ?_)
                ·
                  refine W.yes 2 100000 (by kernel_rfl) ?_
                  refine W.yes 2 100000 (by kernel_rfl) ?_
                  refine W.yes 2 100000 (by kernel_rfl) ?_
                  refine W.yes 2 100000 (by kernel_rfl) ?_
                  cases h509; exact W.retK 2 100000 K509 (by kernel_rfl)
                ·
                  refine W.no 2 100000 (by kernel_rfl) ?_
                  refine W.cond 2 100000 h509 (by kernel_rfl) (fun h509 => ?_) (fun h509 => ?_)
                  ·
                    refine W.yes 2 100000 (by kernel_rfl) ?_
                    refine W.no 2 100000 (by kernel_rfl) ?_
                    refine W.yes 2 100000 (by kernel_rfl) ?_
                    refine W.no 2 100000 (by kernel_rfl) ?_
                    refine W.cond 2 100000 h509 (by kernel_rfl) (fun h509 => ?_) (fun h509 => ?_)
                    ·
                      cases h509; exact W.retK 2 100000 K509 (by kernel_rfl)
                    ·
                      cases h509; exact W.at 2 100000 [] [0, 3] (by kernel_rfl) K509
                  ·
                    refine W.no 2 100000 (by kernel_rfl) ?_
                    refine W.no 2 100000 (by kernel_rfl) ?_
                    refine W.no 2 100000 (by kernel_rfl) ?_
                    refine W.no 2 100000 (by kernel_rfl) ?_
                    refine W.no 2 100000 (by kernel_rfl) ?_
                    cases h509; exact W.at 2 100000 [] [0, 3] (by kernel_rfl) K509
              ·
                refine W.no 2 100000 (by kernel_rfl) ?_
                refine W.no 2 100000 (by kernel_rfl) ?_
                refine W.no 2 100000 (by kernel_rfl) ?_
                refine W.no 2 100000 (by kernel_rfl) ?_
                refine W.cond 2 100000 h509 (by kernel_rfl) (fun h509 => ?_) (fun h509 => ?_)
                ·
                  refine W.yes 2 100000 (by kernel_rfl) ?_
                  refine W.no 2 100000 (by kernel_rfl) ?_
                  refine W.yes 2 100000 (by kernel_rfl) ?_
                  refine W.no 2 100000 (by kernel_rfl) ?_
                  refine W.cond 2 100000 h509 (by kernel_rfl) (fun h509 => ?_) (fun h509 => ?_)
                  ·
                    cases h509; exact W.retK 2 100000 K509 (by kernel_rfl)
                  ·
                    cases h509; exact W.at 2 100000 [] [0, 3] (by kernel_rfl) K509
                ·
                  refine W.no 2 100000 (by kernel_rfl) ?_
                  refine W.no 2 100000 (by kernel_rfl) ?_
                  refine W.no 2 100000 (by kernel_rfl) ?_
                  refine W.no 2 100000 (by kernel_rfl) ?_
                  refine W.no 2 100000 (by kernel_rfl) ?_
                  cases h509; exact W.at 2 100000 [] [0, 3] (by kernel_rfl) K509
            ·
              refine W.no 2 100000 (by kernel_rfl) ?_
              refine W.no 2 100000 (by kernel_rfl) ?_
              refine W.no 2 100000 (by kernel_rfl) ?_
              refine W.no 2 100000 (by kernel_rfl) ?_
              refine W.no 2 100000 (by kernel_rfl) ?_
              refine W.no 2 100000 (by kernel_rfl) ?_
              refine W.no 2 100000 (by kernel_rfl) ?_
              refine W.cond 2 100000 h509 (by kernel_rfl) (fun h509 => ?_) (fun h509 => ?_)
              ·
                refine W.yes 2 100000 (by kernel_rfl) ?_
                refine W.no 2 100000 (by kernel_rfl) ?_
                refine W.yes 2 100000 (by kernel_rfl) ?_
                refine W.no 2 100000 (by kernel_rfl) ?_
                refine W.cond 2 100000 h509 (by kernel_rfl) (fun h509 => ?_) (fun h509 => ?_)
                ·
                  cases h509; exact W.retK 2 100000 K509 (by kernel_rfl)
                ·
                  cases h509; exact W.at 2 100000 [] [0, 3] (by kernel_rfl) K509
              ·
                refine W.no 2 100000 (by kernel_rfl) ?_
                refine W.no 2 100000 (by kernel_rfl) ?_
                refine W.no 2 100000 (by kernel_rfl) ?_
                refine W.no 2 100000 (by kernel_rfl) ?_
                refine W.no 2 100000 (by kernel_rfl) ?_
                cases h509; exact W.at 2 100000 [] [0, 3] (by kernel_rfl) K509
          · refine W.next 2 1 (by kernel_rfl) ?_
            refine W.cond 6 100000 h504 (by kernel_rfl) (fun h504 => ?_) (fun h504 => ?_)
            ·
              refine W.yes 6 100000 (by kernel_rfl) ?_
              refine W.yes 6 100000 (by kernel_rfl) ?_
              refine W.yes 6 100000 (by kernel_rfl) ?_
              refine W.yes 6 100000 (by kernel_rfl) ?_
              refine W.yes 6 100000 (by kernel_rfl) ?_
              cases h504; exact W.at 6 100000 [] [0, 3, 5, 6, 7] (by kernel_rfl) K504
            ·
              refine W.no 6 100000 (by kernel_rfl) ?_
              refine W.no 6 100000 (by kernel_rfl) ?_
              refine W.cond 6 100000 h504 (by kernel_rfl) (fun h504 => ?_) (fun h504 => ?_)
              ·
                refine W.yes 6 100000 (by kernel_rfl) ?_
                refine W.yes 6 100000 (by kernel_rfl) ?_
                cases h504; exact W.at 6 100000 [] [0, 3, 5, 6, 7] (by kernel_rfl) K504
              ·
                refine W.no 6 100000 (by kernel_rfl) ?_
                refine W.no 6 100000 (by kernel_rfl) ?_
                cases h504; exact W.at 6 100000 [] [0, 3, 5, 6, 7] (by kernel_rfl) K504
        · refine W.next 2 1 (by kernel_rfl) ?_
          refine W.cond 6 100000 h505 (by kernel_rfl) (fun h505 => ?_) (fun h505 => ?_)
          ·
            refine W.yes 6 100000 (by kernel_rfl) ?_
            refine W.yes 6 100000 (by kernel_rfl) ?_
            cases h505; exact W.at 6 100000 [] [0, 3, 4, 5, 6] (by kernel_rfl) K505
          ·
            refine W.no 6 100000 (by kernel_rfl) ?_
            refine W.no 6 100000 (by kernel_rfl) ?_
            cases h505; exact W.at 6 100000 [] [0, 3, 4, 5, 6] (by kernel_rfl) K505
      · refine W.next 2 3 (by kernel_rfl) ?_
        refine W.cond 6 100000 h506 (by kernel_rfl) (fun h506 => ?_) (fun h506 => ?_)
        ·
          refine W.yes 6 100000 (by kernel_rfl) ?_
          refine W.yes 6 100000 (by kernel_rfl) ?_
          cases h506; exact W.at 6 100000 [] [0, 3, 4, 5] (by kernel_rfl) K506
        ·
          refine W.no 6 100000 (by kernel_rfl) ?_
          refine W.no 6 100000 (by kernel_rfl) ?_
          cases h506; exact W.at 6 100000 [] [0, 3, 4, 5] (by kernel_rfl) K506
    ·
      cases h509; exact W.at 2 100000 [] [0] (by kernel_rfl) K509

theorem cellarerref06_Split_con {s_515 : List UInt8} {c_516 : Int} {r : List (List UInt8)} (h : cellarerref06_Split s_515 c_516 = some r) : Con Go.Proofs.Tryd.prog 33 [AV.str s_515, AV.int IntKind.u8 c_516] [] (cellarerref06_Split_res r) (cellarerref06_Split_out r) := by
  refine W.con (by kernel_rfl) ?_
  unfold cellarerref06_Split at h
  refine W.at 0 100000 [Co.own 5 (Ty.str)] [0, 1, 5, 6, 7] (c' := (fun (s_533 : List UInt8 × Int × List (List UInt8)) => (Cfg.mk Mode.run (headTodo Go.Proofs.Tryd.prog 33 0) (St.mk [AV.str s_515, AV.int IntKind.u8 c_516, jj, jj, jj, AV.view (0 : Nat) (0 : Nat) Option.none, AV.str (Prod.fst s_533), AV.int IntKind.i64 (Prod.fst (Prod.snd s_533)), jj, jj, jj, jj, jj, jj, jj, jj, jj, jj, jj, jj, jj, jj, jj, jj, jj, jj, jj, jj, jj, jj, jj, jj, jj, jj] [AO.row Ty.str (Prod.snd (Prod.snd s_533))] (0 : Nat)))) ([], (0 : Int), [])) (by kernel_rfl) ?_
  refine W.loop (fun (s_533 : List UInt8 × Int × List (List UInt8)) => (Cfg.mk Mode.run (headTodo Go.Proofs.Tryd.prog 33 0) (St.mk [AV.str s_515, AV.int IntKind.u8 c_516, jj, jj, jj, AV.view (0 : Nat) (0 : Nat) Option.none, AV.str (Prod.fst s_533), AV.int IntKind.i64 (Prod.fst (Prod.snd s_533)), jj, jj, jj, jj, jj, jj, jj, jj, jj, jj, jj, jj, jj, jj, jj, jj, jj, jj, jj, jj, jj, jj, jj, jj, jj, jj] [AO.row Ty.str (Prod.snd (Prod.snd s_533))] (0 : Nat)))) (fun t_528 => Walk Go.Proofs.Tryd.prog 33 (Cfg.mk Mode.run ((headTodo Go.Proofs.Tryd.prog 33 0).drop 3) (St.mk [jj, jj, jj, jj, jj, AV.view (0 : Nat) (0 : Nat) Option.none, AV.str (Prod.fst t_528), jj, jj, jj, jj, jj, jj, jj, jj, jj, jj, jj, jj, jj, jj, jj, jj, jj, jj, jj, jj, jj, jj, jj, jj, jj, jj, jj] [AO.row Ty.str (Prod.snd t_528)] (0 : Nat))) (cellarerref06_Split_res r) (cellarerref06_Split_out r)) h (fun t_528 h => ?_) (fun s_533 x530 h530 K530 => ?_)
  ·
    refine W.needT 0 100000 h (by kernel_rfl) (fun h => ?_)
    exact W.retT 0 100000 h (by kernel_rfl)
  · unfold cellarerref06_Split_b0 at h530
    refine W.cond 2 100000 h530 (by kernel_rfl) (fun h530 => ?_) (fun h530 => ?_)
    ·
      refine W.needT 2 100000 h530 (by kernel_rfl) (fun h530 => ?_)
      refine W.cond 2 100000 h530 (by kernel_rfl) (fun h530 => ?_) (fun h530 => ?_)
      ·
        refine W.needT 2 100000 h530 (by kernel_rfl) (fun h530 => ?_)
        cases h530; exact W.at 2 100000 [Co.own 5 (Ty.str)] [0, 1, 5, 6, 7] (by kernel_rfl) K530
      ·
        refine W.needT 2 100000 h530 (by kernel_rfl) (fun h530 => ?_)
        refine W.needT 2 100000 h530 (by kernel_rfl) (fun h530 => ?_)
        cases h530; exact W.at 2 100000 [Co.own 5 (Ty.str)] [0, 1, 5, 6, 7] (by kernel_rfl) K530
    ·
      cases h530; exact W.at 2 100000 [] [5, 6] (by kernel_rfl) K530

theorem cellarerref06_Join_con {l_536 : List (List UInt8)} {between_537 : List UInt8} {r : List UInt8} (h : cellarerref06_Join l_536 between_537 = some r) : Con Go.Proofs.Tryd.prog 40 [AV.list Ty.str l_536 Bool.false, AV.str between_537] [] (cellarerref06_Join_res r) (cellarerref06_Join_out r) := by
  refine W.con (by kernel_rfl) ?_
  unfold cellarerref06_Join at h
  refine W.at 0 100000 [] [0, 1, 5, 6] (c' := (fun (s_551 : List UInt8 × Int) => (Cfg.mk Mode.run (headTodo Go.Proofs.Tryd.prog 40 0) (St.mk [AV.list Ty.str l_536 Bool.false, AV.str between_537, jj, jj, jj, AV.str (Prod.fst s_551), AV.int IntKind.i64 (Prod.snd s_551), jj, jj, jj, jj, jj, jj, jj, jj, jj, jj, jj, jj, jj, jj, jj, jj, jj, jj] [] (0 : Nat)))) ([], (0 : Int))) (by kernel_rfl) ?_
  refine W.loop (fun (s_551 : List UInt8 × Int) => (Cfg.mk Mode.run (headTodo Go.Proofs.Tryd.prog 40 0) (St.mk [AV.list Ty.str l_536 Bool.false, AV.str between_537, jj, jj, jj, AV.str (Prod.fst s_551), AV.int IntKind.i64 (Prod.snd s_551), jj, jj, jj, jj, jj, jj, jj, jj, jj, jj, jj, jj, jj, jj, jj, jj, jj, jj] [] (0 : Nat)))) (fun t_546 => Walk Go.Proofs.Tryd.prog 40 (Cfg.mk Mode.run ((headTodo Go.Proofs.Tryd.prog 40 0).drop 3) (St.mk [jj, jj, jj, jj, jj, AV.str t_546, jj, jj, jj, jj, jj, jj, jj, jj, jj, jj, jj, jj, jj, jj, jj, jj, jj, jj, jj] [] (0 : Nat))) (cellarerref06_Join_res r) (cellarerref06_Join_out r)) h (fun t_546 h => ?_) (fun s_551 x548 h548 K548 => ?_)
  ·
    exact W.retT 0 100000 h (by kernel_rfl)
  · unfold cellarerref06_Join_b0 at h548
    refine W.cond 2 100000 h548 (by kernel_rfl) (fun h548 => ?_) (fun h548 => ?_)
    ·
      refine W.join (fun t_543 => Walk Go.Proofs.Tryd.prog 40 (Cfg.mk Mode.run (seqTodo Go.Proofs.Tryd.prog 40 7) (St.mk [AV.list Ty.str l_536 Bool.false, AV.str between_537, jj, jj, jj, AV.str t_543, AV.int IntKind.i64 (Prod.snd s_551), jj, jj, jj, jj, jj, jj, jj, jj, jj, jj, jj, jj, jj, jj, jj, jj, jj, jj] [] (0 : Nat))) (cellarerref06_Join_res r) (cellarerref06_Join_out r)) h548 (fun t_543 h548 => ?_) (fun t545 h545 K545 => ?_)
      ·
        refine W.needT 2 100000 h548 (by kernel_rfl) (fun h548 => ?_)
        refine W.needT 2 100000 h548 (by kernel_rfl) (fun h548 => ?_)
        cases h548; exact W.at 2 100000 [] [0, 1, 5, 6] (by kernel_rfl) K548
      · refine W.next 2 4 (by kernel_rfl) ?_
        refine W.cond 6 100000 h545 (by kernel_rfl) (fun h545 => ?_) (fun h545 => ?_)
        ·
          refine W.needT 6 100000 h545 (by kernel_rfl) (fun h545 => ?_)
          cases h545; exact W.at 6 100000 [] [0, 1, 5, 6] (by kernel_rfl) K545
        ·
          cases h545; exact W.at 6 100000 [] [0, 1, 5, 6] (by kernel_rfl) K545
    ·
      cases h548; exact W.at 2 100000 [] [5] (by kernel_rfl) K548

theorem relation_Right_con {x_553 : List UInt8} {x_554 : List UInt8} {x_555 : List UInt8} {r : Bool} (h : relation_Right x_553 x_554 x_555 = some r) : Con Go.Proofs.Tryd.prog 13 [AV.agg [AV.str x_553, AV.str x_554, AV.str x_555]] [] (relation_Right_res r) (relation_Right_out r) := by
  refine W.con (by kernel_rfl) ?_
  unfold relation_Right at h
  refine W.bind h fun a_556 ha_556 h => ?_
  refine W.call 0 100000 (by kernel_rfl) (path_Name_con ha_556) (by kernel_rfl) ?_
  refine W.cond 0 100000 h (by kernel_rfl) (fun h => ?_) (fun h => ?_)
  ·
    exact W.retT 0 100000 h (by kernel_rfl)
  ·
    refine W.cond 0 100000 h (by kernel_rfl) (fun h => ?_) (fun h => ?_)
    ·
      exact W.retT 0 100000 h (by kernel_rfl)
    ·
      refine W.join (fun t_558 => Walk Go.Proofs.Tryd.prog 13 (Cfg.mk Mode.run (seqTodo Go.Proofs.Tryd.prog 13 8) (St.mk [jj, AV.ptr (0 : Nat) (0 : Nat), jj, jj, jj, jj, jj, jj, jj, jj, jj, jj, jj, jj, jj, jj, AV.bool t_558, jj, jj, jj, jj, jj, jj, jj, jj, jj, jj, jj, jj, jj] [AO.box [AV.str x_553, AV.str x_554, AV.str x_555]] (0 : Nat))) (relation_Right_res r) (relation_Right_out r)) h (fun t_558 h => ?_) (fun t561 h561 K561 => ?_)
      ·
        refine W.cond 0 100000 h (by kernel_rfl) (fun h => ?_) (fun h => ?_)
        ·
          refine W.bind h fun a_559 ha_559 h => ?_
          refine W.call 0 100000 (by kernel_rfl) (version_Parse_con ha_559) (by kernel_rfl) ?_
          exact W.retT 0 100000 h (by kernel_rfl)
        ·
          exact W.retT 0 100000 h (by kernel_rfl)
      · refine W.next 0 1 (by kernel_rfl) ?_
        refine W.cond 3 100000 h561 (by kernel_rfl) (fun h561 => ?_) (fun h561 => ?_)
        ·
          cases h561; exact W.at 3 100000 [] [1, 16] (by kernel_rfl) K561
        ·
          refine W.cond 3 100000 h561 (by kernel_rfl) (fun h561 => ?_) (fun h561 => ?_)
          ·
            cases h561; exact W.at 3 100000 [] [1, 16] (by kernel_rfl) K561
          ·
            refine W.cond 3 100000 h561 (by kernel_rfl) (fun h561 => ?_) (fun h561 => ?_)
            ·
              cases h561; exact W.at 3 100000 [] [1, 16] (by kernel_rfl) K561
            ·
              refine W.cond 3 100000 h561 (by kernel_rfl) (fun h561 => ?_) (fun h561 => ?_)
              ·
                cases h561; exact W.at 3 100000 [] [1, 16] (by kernel_rfl) K561
              ·
                cases h561; exact W.at 3 100000 [] [1, 16] (by kernel_rfl) K561

theorem cellarerref07_Right_con {x_564 : List UInt8} {x_565 : List UInt8} {x_566 : List UInt8} {r : Bool} (h : cellarerref07_Right x_564 x_565 x_566 = some r) : Con Go.Proofs.Tryd.prog 14 [AV.agg [AV.str x_564, AV.str x_565, AV.str x_566]] [] (cellarerref07_Right_res r) (cellarerref07_Right_out r) := by
  refine W.con (by kernel_rfl) ?_
  unfold cellarerref07_Right at h
  refine W.bind h fun a_567 ha_567 h => ?_
  refine W.call 0 100000 (by kernel_rfl) (cellarerref02_Name_con ha_567) (by kernel_rfl) ?_
  refine W.cond 0 100000 h (by kernel_rfl) (fun h => ?_) (fun h => ?_)
  ·
    exact W.retT 0 100000 h (by kernel_rfl)
  ·
    refine W.cond 0 100000 h (by kernel_rfl) (fun h => ?_) (fun h => ?_)
    ·
      exact W.retT 0 100000 h (by kernel_rfl)
    ·
      refine W.bind h fun a_568 ha_568 h => ?_
      refine W.call 0 100000 (by kernel_rfl) (cellarerref05_Parse_con ha_568) (by kernel_rfl) ?_
      refine W.cond 0 100000 h (by kernel_rfl) (fun h => ?_) (fun h => ?_)
      ·
        refine W.yes 0 100000 (by kernel_rfl) ?_
        refine W.yes 0 100000 (by kernel_rfl) ?_
        refine W.yes 0 100000 (by kernel_rfl) ?_
        refine W.yes 0 100000 (by kernel_rfl) ?_
        refine W.yes 0 100000 (by kernel_rfl) ?_
        refine W.yes 0 100000 (by kernel_rfl) ?_
        refine W.yes 0 100000 (by kernel_rfl) ?_
        refine W.yes 0 100000 (by kernel_rfl) ?_
        refine W.yes 0 100000 (by kernel_rfl) ?_
        refine W.yes 0 100000 (by kernel_rfl) ?_
        refine W.yes 0 100000 (by kernel_rfl) ?_
        refine W.yes 0 100000 (by kernel_rfl) ?_
        refine W.yes 0 100000 (by kernel_rfl) ?_
        refine W.yes 0 100000 (by kernel_rfl) ?_
        refine W.yes 0 100000 (by kernel_rfl) ?_
        refine W.yes 0 100000 (by kernel_rfl) ?_
        refine W.yes 0 100000 (by kernel_rfl) ?_
        refine W.yes 0 100000 (by kernel_rfl) ?_
        exact W.retT 0 100000 h (by kernel_rfl)
      ·
        refine W.no 0 100000 (by kernel_rfl) ?_
        refine W.no 0 100000 (by kernel_rfl) ?_
        refine W.no 0 100000 (by kernel_rfl) ?_
        refine W.cond 0 100000 h (by kernel_rfl) (fun h => ?_) (fun h => ?_)
        ·
          refine W.yes 0 100000 (by kernel_rfl) ?_
          refine W.yes 0 100000 (by kernel_rfl) ?_
          refine W.yes 0 100000 (by kernel_rfl) ?_
          refine W.yes 0 100000 (by kernel_rfl) ?_
          refine W.yes 0 100000 (by kernel_rfl) ?_
          refine W.yes 0 100000 (by kernel_rfl) ?_
          refine W.yes 0 100000 (by kernel_rfl) ?_
          refine W.yes 0 100000 (by kernel_rfl) ?_
          refine W.yes 0 100000 (by kernel_rfl) ?_
          refine W.yes 0 100000 (by kernel_rfl) ?_
          refine W.yes 0 100000 (by kernel_rfl) ?_
          refine W.yes 0 100000 (by kernel_rfl) ?_
          refine W.yes 0 100000 (by kernel_rfl) ?_
          refine W.yes 0 100000 (by kernel_rfl) ?_
          exact W.retT 0 100000 h (by kernel_rfl)
        ·
          refine W.no 0 100000 (by kernel_rfl) ?_
          refine W.no 0 100000 (by kernel_rfl) ?_
          refine W.no 0 100000 (by kernel_rfl) ?_
          refine W.cond 0 100000 h (by kernel_rfl) (fun h => ?_) (fun h => ?_)
          ·
            refine W.yes 0 100000 (by kernel_rfl) ?_
            refine W.yes 0 100000 (by kernel_rfl) ?_
            refine W.yes 0 100000 (by kernel_rfl) ?_
            refine W.yes 0 100000 (by kernel_rfl) ?_
            refine W.yes 0 100000 (by kernel_rfl) ?_
            refine W.yes 0 100000 (by kernel_rfl) ?_
            refine W.yes 0 100000 (by kernel_rfl) ?_
            refine W.yes 0 100000 (by kernel_rfl) ?_
            refine W.yes 0 100000 (by kernel_rfl) ?_
            refine W.yes 0 100000 (by kernel_rfl) ?_
            exact W.retT 0 100000 h (by kernel_rfl)
          ·
            refine W.no 0 100000 (by kernel_rfl) ?_
            refine W.no 0 100000 (by kernel_rfl) ?_
            refine W.no 0 100000 (by kernel_rfl) ?_
            refine W.cond 0 100000 h (by kernel_rfl) (fun h => ?_) (fun h => ?_)
            ·
              refine W.yes 0 100000 (by kernel_rfl) ?_
              refine W.yes 0 100000 (by kernel_rfl) ?_
              refine W.yes 0 100000 (by kernel_rfl) ?_
              refine W.yes 0 100000 (by kernel_rfl) ?_
              refine W.yes 0 100000 (by kernel_rfl) ?_
              refine W.yes 0 100000 (by kernel_rfl) ?_
              exact W.retT 0 100000 h (by kernel_rfl)
            ·
              refine W.no 0 100000 (by kernel_rfl) ?_
              refine W.no 0 100000 (by kernel_rfl) ?_
              refine W.no 0 100000 (by kernel_rfl) ?_
              refine W.cond 0 100000 h (by kernel_rfl) (fun h => ?_) (fun h => ?_)
              ·
                refine W.yes 0 100000 (by kernel_rfl) ?_
                refine W.yes 0 100000 (by kernel_rfl) ?_
                exact W.retT 0 100000 h (by kernel_rfl)
              ·
                refine W.no 0 100000 (by kernel_rfl) ?_
                refine W.no 0 100000 (by kernel_rfl) ?_
                exact W.retT 0 100000 h (by kernel_rfl)

theorem relation_Text_con {x_572 : List UInt8} {x_573 : List UInt8} {x_574 : List UInt8} {r : List UInt8} (h : relation_Text x_572 x_573 x_574 = some r) : Con Go.Proofs.Tryd.prog 15 [AV.agg [AV.str x_572, AV.str x_573, AV.str x_574]] [] (relation_Text_res r) (relation_Text_out r) := by
  refine W.con (by kernel_rfl) ?_
  unfold relation_Text at h
  refine W.cond 0 100000 h (by kernel_rfl) (fun h => ?_) (fun h => ?_)
  ·
    exact W.retT 0 100000 h (by kernel_rfl)
  ·
    refine W.needT 0 100000 h (by kernel_rfl) (fun h => ?_)
    refine W.needT 0 100000 h (by kernel_rfl) (fun h => ?_)
    refine W.needT 0 100000 h (by kernel_rfl) (fun h => ?_)
    refine W.needT 0 100000 h (by kernel_rfl) (fun h => ?_)
    refine W.needT 0 100000 h (by kernel_rfl) (fun h => ?_)
    exact W.retT 0 100000 h (by kernel_rfl)

theorem cellarerref07_Text_con {x_578 : List UInt8} {x_579 : List UInt8} {x_580 : List UInt8} {r : List UInt8} (h : cellarerref07_Text x_578 x_579 x_580 = some r) : Con Go.Proofs.Tryd.prog 16 [AV.agg [AV.str x_578, AV.str x_579, AV.str x_580]] [] (cellarerref07_Text_res r) (cellarerref07_Text_out r) := by
  refine W.con (by kernel_rfl) ?_
  unfold cellarerref07_Text at h
  refine W.cond 0 100000 h (by kernel_rfl) (fun h => ?_) (fun h => ?_)
  ·
    exact W.retT 0 100000 h (by kernel_rfl)
  ·
    refine W.needT 0 100000 h (by kernel_rfl) (fun h => ?_)
    refine W.needT 0 100000 h (by kernel_rfl) (fun h => ?_)
    refine W.needT 0 100000 h (by kernel_rfl) (fun h => ?_)
    refine W.needT 0 100000 h (by kernel_rfl) (fun h => ?_)
    refine W.needT 0 100000 h (by kernel_rfl) (fun h => ?_)
    exact W.retT 0 100000 h (by kernel_rfl)

theorem relation_right_con {x_584 : List UInt8} {x_585 : List UInt8} {x_586 : List UInt8} {r : List UInt8 × Int} (h : relation_right x_584 x_585 x_586 = some r) : Con Go.Proofs.Tryd.prog 49 [AV.agg [AV.str x_584, AV.str x_585, AV.str x_586]] [] (relation_right_res r) (relation_right_out r) := by
  refine W.con (by kernel_rfl) ?_
  unfold relation_right at h
  refine W.bind h fun a_587 ha_587 h => ?_
  refine W.call 0 100000 (by kernel_rfl) (relation_Right_con ha_587) (by kernel_rfl) ?_
  refine W.cond 0 100000 h (by kernel_rfl) (fun h => ?_) (fun h => ?_)
  ·
    exact W.retT 0 100000 h (by kernel_rfl)
  ·
    refine W.bind h fun a_588 ha_588 h => ?_
    refine W.call 0 100000 (by kernel_rfl) (relation_Text_con ha_588) (by kernel_rfl) ?_
    exact W.retT 0 100000 h (by kernel_rfl)

theorem stringslite_Cut_con {s_596 : List UInt8} {sep_597 : List UInt8} {r : List UInt8 × List UInt8 × Bool} (h : stringslite_Cut s_596 sep_597 = some r) : Con Go.Proofs.Tryd.prog 51 [AV.str s_596, AV.str sep_597] [] (stringslite_Cut_res r) (stringslite_Cut_out r) := by
  refine W.con (by kernel_rfl) ?_
  unfold stringslite_Cut at h
  refine W.bind h fun a_598 ha_598 h => ?_
  refine W.call 0 100000 (by kernel_rfl) (stringslite_Index_con ha_598) (by kernel_rfl) ?_
  refine W.cond 0 100000 h (by kernel_rfl) (fun h => ?_) (fun h => ?_)
  ·
    refine W.needT 0 100000 h (by kernel_rfl) (fun h => ?_)
    refine W.needT 0 100000 h (by kernel_rfl) (fun h => ?_)
    exact W.retT 0 100000 h (by kernel_rfl)
  ·
    exact W.retT 0 100000 h (by kernel_rfl)

theorem strings_Cut_con {s_594 : List UInt8} {sep_595 : List UInt8} {r : List UInt8 × List UInt8 × Bool} (h : strings_Cut s_594 sep_595 = some r) : Con Go.Proofs.Tryd.prog 31 [AV.str s_594, AV.str sep_595] [] (strings_Cut_res r) (strings_Cut_out r) := by
  refine W.con (by kernel_rfl) ?_
  unfold strings_Cut at h
  refine W.bind h fun a_603 ha_603 h => ?_
  refine W.call 0 100000 (by kernel_rfl) (stringslite_Cut_con ha_603) (by kernel_rfl) ?_
  exact W.retT 0 100000 h (by kernel_rfl)

theorem stringslite_HasSuffix_con {s_614 : List UInt8} {suffix_615 : List UInt8} {r : Bool} (h : stringslite_HasSuffix s_614 suffix_615 = some r) : Con Go.Proofs.Tryd.prog 66 [AV.str s_614, AV.str suffix_615] [] (stringslite_HasSuffix_res r) (stringslite_HasSuffix_out r) := by
  refine W.con (by kernel_rfl) ?_
  unfold stringslite_HasSuffix at h
  refine W.cond 0 100000 h (by kernel_rfl) (fun h => ?_) (fun h => ?_)
  ·
    refine W.yes 0 100000 (by kernel_rfl) ?_
    refine W.yes 0 100000 (by kernel_rfl) ?_
    refine W.yes 0 100000 (by kernel_rfl) ?_
    refine W.yes 0 100000 (by kernel_rfl) ?_
    refine W.yes 0 100000 (by kernel_rfl) ?_
    refine W.yes 0 100000 (by kernel_rfl) ?_
    refine W.needT 0 100000 h (by kernel_rfl) (fun h => ?_)
    refine W.yes 0 100000 (by kernel_rfl) ?_
    refine W.yes 0 100000 (by kernel_rfl) ?_
    refine W.yes 0 100000 (by kernel_rfl) ?_
    exact W.retT 0 100000 h (by kernel_rfl)
  ·
    refine W.no 0 100000 (by kernel_rfl) ?_
    refine W.no 0 100000 (by kernel_rfl) ?_
    refine W.no 0 100000 (by kernel_rfl) ?_
    refine W.no 0 100000 (by kernel_rfl) ?_
    refine W.no 0 100000 (by kernel_rfl) ?_
    refine W.no 0 100000 (by kernel_rfl) ?_
    refine W.no 0 100000 (by kernel_rfl) ?_
    refine W.no 0 100000 (by kernel_rfl) ?_
    refine W.no 0 100000 (by kernel_rfl) ?_
    exact W.retT 0 100000 h (by kernel_rfl)

theorem stringslite_TrimSuffix_con {s_612 : List UInt8} {suffix_613 : List UInt8} {r : List UInt8} (h : stringslite_TrimSuffix s_612 suffix_613 = some r) : Con Go.Proofs.Tryd.prog 52 [AV.str s_612, AV.str suffix_613] [] (stringslite_TrimSuffix_res r) (stringslite_TrimSuffix_out r) := by
  refine W.con (by kernel_rfl) ?_
  unfold stringslite_TrimSuffix at h
  refine W.bind h fun a_618 ha_618 h => ?_
  refine W.call 0 100000 (by kernel_rfl) (stringslite_HasSuffix_con ha_618) (by kernel_rfl) ?_
  refine W.cond 0 100000 h (by kernel_rfl) (fun h => ?_) (fun h => ?_)
  ·
    refine W.needT 0 100000 h (by kernel_rfl) (fun h => ?_)
    exact W.retT 0 100000 h (by kernel_rfl)
  ·
    exact W.retT 0 100000 h (by kernel_rfl)

theorem strings_TrimSuffix_con {s_610 : List UInt8} {suffix_611 : List UInt8} {r : List UInt8} (h : strings_TrimSuffix s_610 suffix_611 = some r) : Con Go.Proofs.Tryd.prog 32 [AV.str s_610, AV.str suffix_611] [] (strings_TrimSuffix_res r) (strings_TrimSuffix_out r) := by
  refine W.con (by kernel_rfl) ?_
  unfold strings_TrimSuffix at h
  refine W.bind h fun a_621 ha_621 h => ?_
  refine W.call 0 100000 (by kernel_rfl) (stringslite_TrimSuffix_con ha_621) (by kernel_rfl) ?_
  exact W.retT 0 100000 h (by kernel_rfl)

theorem relation_Parse_con {s_625 : List UInt8} {r : List UInt8 × List UInt8 × List UInt8 × Int} (h : relation_Parse s_625 = some r) : Con Go.Proofs.Tryd.prog 10 [AV.str s_625] [] (relation_Parse_res r) (relation_Parse_out r) := by
  refine W.con (by kernel_rfl) ?_
  unfold relation_Parse at h
  refine W.join (fun t_632 => Walk Go.Proofs.Tryd.prog 10 (Cfg.mk Mode.run (seqTodo Go.Proofs.Tryd.prog 10 2) (St.mk [AV.str s_625, jj, AV.ptr (0 : Nat) (0 : Nat), jj, AV.ptr (1 : Nat) (0 : Nat), jj, jj, jj, jj, jj, jj, jj, jj, jj, jj, jj, jj, jj, jj, jj, jj, jj, jj, jj, jj, jj, jj, jj, jj, jj, jj, jj, jj, jj, jj, jj, jj, jj, jj, jj, jj, jj] [AO.box [AV.str [], AV.str [], AV.str []], AO.box [AV.str (Prod.fst t_632), AV.str (Prod.fst (Prod.snd t_632)), AV.str (Prod.snd (Prod.snd t_632))]] (0 : Nat))) (relation_Parse_res r) (relation_Parse_out r)) h (fun t_632 h => ?_) (fun t636 h636 K636 => ?_)
  ·
    refine W.bind h fun a_633 ha_633 h => ?_
    refine W.call 0 100000 (by kernel_rfl) (relation_Right_con ha_633) (by kernel_rfl) ?_
    refine W.cond 0 100000 h (by kernel_rfl) (fun h => ?_) (fun h => ?_)
    ·
      refine W.yes 0 100000 (by kernel_rfl) ?_
      refine W.yes 0 100000 (by kernel_rfl) ?_
      refine W.yes 0 100000 (by kernel_rfl) ?_
      refine W.yes 0 100000 (by kernel_rfl) ?_
      refine W.yes 0 100000 (by kernel_rfl) ?_
      exact W.retT 0 100000 h (by kernel_rfl)
    ·
      refine W.no 0 100000 (by kernel_rfl) ?_
      refine W.bind h fun a_634 ha_634 h => ?_
      refine W.call 0 100000 (by kernel_rfl) (relation_Text_con ha_634) (by kernel_rfl) ?_
      refine W.no 0 100000 (by kernel_rfl) ?_
      refine W.no 0 100000 (by kernel_rfl) ?_
      refine W.no 0 100000 (by kernel_rfl) ?_
      refine W.cond 0 100000 h (by kernel_rfl) (fun h => ?_) (fun h => ?_)
      ·
        exact W.retT 0 100000 h (by kernel_rfl)
      ·
        exact W.retT 0 100000 h (by kernel_rfl)
  · refine W.next 0 13 (by kernel_rfl) ?_
    refine W.bind h636 fun a_626 ha_626 h636 => ?_
    refine W.call 1 100000 (by kernel_rfl) (strings_Cut_con ha_626) (by kernel_rfl) ?_
    refine W.cond 1 100000 h636 (by kernel_rfl) (fun h636 => ?_) (fun h636 => ?_)
    ·
      refine W.bind h636 fun a_627 ha_627 h636 => ?_
      refine W.call 1 100000 (by kernel_rfl) (strings_Cut_con ha_627) (by kernel_rfl) ?_
      refine W.bind h636 fun a_628 ha_628 h636 => ?_
      refine W.call 1 100000 (by kernel_rfl) (strings_TrimSuffix_con ha_628) (by kernel_rfl) ?_
      cases h636; exact W.at 1 100000 [] [0, 2, 4] (by kernel_rfl) K636
    ·
      cases h636; exact W.at 1 100000 [] [0, 2, 4] (by kernel_rfl) K636

theorem cellarerref07_trimmed_con {s_643 : List UInt8} {ahead_644 : Bool} {r : List UInt8} (h : cellarerref07_trimmed s_643 ahead_644 = some r) : Con Go.Proofs.Tryd.prog 46 [AV.str s_643, AV.bool ahead_644] [] (cellarerref07_trimmed_res r) (cellarerref07_trimmed_out r) := by
  refine W.con (by kernel_rfl) ?_
  unfold cellarerref07_trimmed at h
  refine W.join (fun t => (Sum.elim (fun t_645 => r = (List.drop (Int.toNat (1 : Int)) (List.take (Int.toNat (↑(List.length s_643) : Int)) s_643))) (fun t_646 => Walk Go.Proofs.Tryd.prog 46 (Cfg.mk Mode.run (seqTodo Go.Proofs.Tryd.prog 46 1) (St.mk [AV.str s_643, AV.bool ahead_644, jj, jj, jj, jj, jj, jj, jj, jj, jj, jj, jj, jj, jj, jj, jj, jj, jj, jj, jj, jj, jj, jj, jj, jj, jj, jj, jj, jj, jj, jj, jj, jj, jj, jj, jj, jj, jj] [] (0 : Nat))) (cellarerref07_trimmed_res r) (cellarerref07_trimmed_out r))) t) h (fun t h => ?_) (fun t648 h648 K648 => ?_)
  ·
    rcases t with t_645 | t_646
    · replace h := W.inl (h)
      refine W.elimL (?_)
      exact (Option.some.inj h).symm
    · replace h := W.inr (h)
      refine W.elimR (?_)
      refine W.cond 0 100000 h (by kernel_rfl) (fun h => ?_) (fun h => ?_)
      ·
        refine W.yes 0 100000 (by kernel_rfl) ?_
        refine W.yes 0 100000 (by kernel_rfl) ?_
        refine W.yes 0 100000 (by kernel_rfl) ?_
        refine W.cond 0 100000 h (by kernel_rfl) (fun h => ?_) (fun h => ?_)
        ·
          refine W.yes 0 100000 (by kernel_rfl) ?_
          refine W.yes 0 100000 (by kernel_rfl) ?_
          refine W.yes 0 100000 (by kernel_rfl) ?_
          refine W.yes 0 100000 (by kernel_rfl) ?_
          refine W.needT 0 100000 h (by kernel_rfl) (fun h => ?_)
          refine W.yes 0 100000 (by kernel_rfl) ?_
          refine W.yes 0 100000 (by kernel_rfl) ?_
          refine W.cond 0 100000 h (by kernel_rfl) (fun h => ?_) (fun h => ?_)
          ·
            refine W.needT 0 100000 h (by kernel_rfl) (fun h => ?_)
            exact W.retT 0 100000 h (by kernel_rfl)
          ·
            exact W.retT 0 100000 h (by kernel_rfl)
        ·
          refine W.no 0 100000 (by kernel_rfl) ?_
          refine W.no 0 100000 (by kernel_rfl) ?_
          refine W.no 0 100000 (by kernel_rfl) ?_
          refine W.no 0 100000 (by kernel_rfl) ?_
          refine W.no 0 100000 (by kernel_rfl) ?_
          refine W.no 0 100000 (by kernel_rfl) ?_
          refine W.no 0 100000 (by kernel_rfl) ?_
          exact W.retT 0 100000 h (by kernel_rfl)
      ·
        refine W.no 0 100000 (by kernel_rfl) ?_
        refine W.no 0 100000 (by kernel_rfl) ?_
        refine W.no 0 100000 (by kernel_rfl) ?_
        refine W.no 0 100000 (by kernel_rfl) ?_
        refine W.no 0 100000 (by kernel_rfl) ?_
        refine W.no 0 100000 (by kernel_rfl) ?_
        refine W.no 0 100000 (by kernel_rfl) ?_
        refine W.no 0 100000 (by kernel_rfl) ?_
        refine W.no 0 100000 (by kernel_rfl) ?_
        refine W.no 0 100000 (by kernel_rfl) ?_
        refine W.no 0 100000 (by kernel_rfl) ?_
        exact W.retT 0 100000 h (by kernel_rfl)
  · refine W.next 0 5 (by kernel_rfl) ?_
    refine W.cond 1 100000 h648 (by kernel_rfl) (fun h648 => ?_) (fun h648 => ?_)
    ·
      refine W.yes 1 100000 (by kernel_rfl) ?_
      refine W.yes 1 100000 (by kernel_rfl) ?_
      refine W.yes 1 100000 (by kernel_rfl) ?_
      refine W.cond 1 100000 h648 (by kernel_rfl) (fun h648 => ?_) (fun h648 => ?_)
      ·
        refine W.yes 1 100000 (by kernel_rfl) ?_
        refine W.needT 1 100000 h648 (by kernel_rfl) (fun h648 => ?_)
        refine W.yes 1 100000 (by kernel_rfl) ?_
        refine W.yes 1 100000 (by kernel_rfl) ?_
        refine W.cond 1 100000 h648 (by kernel_rfl) (fun h648 => ?_) (fun h648 => ?_)
        ·
          refine W.needT 1 100000 h648 (by kernel_rfl) (fun h648 => ?_)
          cases h648; exact W.retK 1 100000 K648 (by kernel_rfl)
        ·
          cases h648; exact W.at 1 100000 [] [0, 1] (by kernel_rfl) K648
      ·
        refine W.no 1 100000 (by kernel_rfl) ?_
        refine W.no 1 100000 (by kernel_rfl) ?_
        refine W.no 1 100000 (by kernel_rfl) ?_
        refine W.no 1 100000 (by kernel_rfl) ?_
        cases h648; exact W.at 1 100000 [] [0, 1] (by kernel_rfl) K648
    ·
      refine W.no 1 100000 (by kernel_rfl) ?_
      refine W.no 1 100000 (by kernel_rfl) ?_
      refine W.no 1 100000 (by kernel_rfl) ?_
      refine W.no 1 100000 (by kernel_rfl) ?_
      refine W.no 1 100000 (by kernel_rfl) ?_
      refine W.no 1 100000 (by kernel_rfl) ?_
      refine W.no 1 100000 (by kernel_rfl) ?_
      refine W.no 1 100000 (by kernel_rfl) ?_
      cases h648; exact W.at 1 100000 [] [0, 1] (by kernel_rfl) K648

end Go.Cellar
