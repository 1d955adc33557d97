/- What the program's functions come to: printed by a program, checked by Lean. No condition. -/
import Derived.Test.YtapfjjbgcfnnmaaDoorFun20
import Derived.Test.YtapfjjbgcfnnmaaDoorAbs26
import Derived.Test.YtapfjjbgcfnnmaaDoorProg
set_option maxRecDepth 4000
set_option synthInstance.maxHeartbeats 2000000
set_option synthInstance.maxSize 100000
set_option linter.unusedVariables false
namespace Go.Cellar
open Go

theorem cellarerref05_at_con {s_3 : List UInt8} {c_4 : Int} {last_5 : Bool} {r : Int} (h : cellarerref05_at s_3 c_4 last_5 = some r) : Con Go.Proofs.Tryd.prog 51 [AV.str s_3, AV.int IntKind.u8 c_4, AV.bool last_5] [] (cellarerref05_at_res r) (cellarerref05_at_out r) := by
  refine W.con (by kernel_rfl) ?_
  unfold cellarerref05_at at h
  refine W.at 0 100000 [] [0, 1, 2, 7, 8] (c' := (fun (s_17 : Int × Int) => (Cfg.mk Mode.run (headTodo Go.Proofs.Tryd.prog 51 0) (St.mk [AV.str s_3, AV.int IntKind.u8 c_4, AV.bool last_5, jj, jj, jj, jj, AV.int IntKind.i64 (Prod.fst s_17), AV.int IntKind.i64 (Prod.snd s_17), jj, jj, jj, jj, jj, jj, jj, jj, jj, jj, jj, jj, jj, jj, jj, jj, jj, jj, jj, jj] [] (0 : Nat)))) ((-1 : Int), (0 : Int))) (by kernel_rfl) ?_
  refine W.loop (fun (s_17 : Int × Int) => (Cfg.mk Mode.run (headTodo Go.Proofs.Tryd.prog 51 0) (St.mk [AV.str s_3, AV.int IntKind.u8 c_4, AV.bool last_5, jj, jj, jj, jj, AV.int IntKind.i64 (Prod.fst s_17), AV.int IntKind.i64 (Prod.snd s_17), jj, jj, jj, jj, jj, jj, jj, jj, jj, jj, jj, jj, jj, jj, jj, jj, jj, jj, jj, jj] [] (0 : Nat)))) (fun t_12 => Walk Go.Proofs.Tryd.prog 51 (Cfg.mk Mode.run ((headTodo Go.Proofs.Tryd.prog 51 0).drop 3) (St.mk [jj, jj, jj, jj, jj, jj, jj, AV.int IntKind.i64 t_12, jj, jj, jj, jj, jj, jj, jj, jj, jj, jj, jj, jj, jj, jj, jj, jj, jj, jj, jj, jj, jj] [] (0 : Nat))) (cellarerref05_at_res r) (cellarerref05_at_out r)) h (fun t_12 h => ?_) (fun s_17 x14 h14 K14 => ?_)
  ·
    exact W.retT 0 100000 h (by kernel_rfl)
  · unfold cellarerref05_at_b0 at h14
    refine W.cond 2 100000 h14 (by kernel_rfl) (fun h14 => ?_) (fun h14 => ?_)
    ·
      refine W.needT 2 100000 h14 (by kernel_rfl) (fun h14 => ?_)
      refine W.cond 2 100000 h14 (by kernel_rfl) (fun h14 => ?_) (fun h14 => ?_)
      ·
        refine W.yes 2 100000 (by kernel_rfl) ?_
        refine W.cond 2 100000 h14 (by kernel_rfl) (fun h14 => ?_) (fun h14 => ?_)
        ·
          refine W.yes 2 100000 (by kernel_rfl) ?_
          refine W.yes 2 100000 (by kernel_rfl) ?_
          refine W.yes 2 100000 (by kernel_rfl) ?_
          refine W.yes 2 100000 (by kernel_rfl) ?_
          refine W.yes 2 100000 (by kernel_rfl) ?_
          cases h14; exact W.at 2 100000 [] [0, 1, 2, 7, 8] (by kernel_rfl) K14
        ·
          refine W.no 2 100000 (by kernel_rfl) ?_
          refine W.yes 2 100000 (by kernel_rfl) ?_
          refine W.no 2 100000 (by kernel_rfl) ?_
          refine W.yes 2 100000 (by kernel_rfl) ?_
          refine W.cond 2 100000 h14 (by kernel_rfl) (fun h14 => ?_) (fun h14 => ?_)
          ·
            cases h14; exact W.at 2 100000 [] [0, 1, 2, 7, 8] (by kernel_rfl) K14
          ·
            cases h14; exact W.at 2 100000 [] [0, 1, 2, 7, 8] (by kernel_rfl) K14
      ·
        refine W.no 2 100000 (by kernel_rfl) ?_
        refine W.no 2 100000 (by kernel_rfl) ?_
        refine W.no 2 100000 (by kernel_rfl) ?_
        refine W.no 2 100000 (by kernel_rfl) ?_
        cases h14; exact W.at 2 100000 [] [0, 1, 2, 7, 8] (by kernel_rfl) K14
    ·
      cases h14; exact W.at 2 100000 [] [7] (by kernel_rfl) K14

theorem cellarerref05_Digit_con {c_19 : Int} {r : Bool} (h : cellarerref05_Digit c_19 = some r) : Con Go.Proofs.Tryd.prog 52 [AV.int IntKind.u8 c_19] [] (cellarerref05_Digit_res r) (cellarerref05_Digit_out r) := by
  refine W.con (by kernel_rfl) ?_
  unfold cellarerref05_Digit at h
  refine W.cond 0 100000 h (by kernel_rfl) (fun h => ?_) (fun h => ?_)
  ·
    refine W.yes 0 100000 (by kernel_rfl) ?_
    refine W.yes 0 100000 (by kernel_rfl) ?_
    exact W.retT 0 100000 h (by kernel_rfl)
  ·
    refine W.no 0 100000 (by kernel_rfl) ?_
    refine W.no 0 100000 (by kernel_rfl) ?_
    exact W.retT 0 100000 h (by kernel_rfl)

theorem version_digit_con {c_23 : Int} {r : Bool} (h : version_digit c_23 = some r) : Con Go.Proofs.Tryd.prog 64 [AV.int IntKind.u8 c_23] [] (version_digit_res r) (version_digit_out r) := by
  refine W.con (by kernel_rfl) ?_
  unfold version_digit at h
  refine W.cond 0 100000 h (by kernel_rfl) (fun h => ?_) (fun h => ?_)
  ·
    refine W.yes 0 100000 (by kernel_rfl) ?_
    refine W.yes 0 100000 (by kernel_rfl) ?_
    exact W.retT 0 100000 h (by kernel_rfl)
  ·
    refine W.no 0 100000 (by kernel_rfl) ?_
    refine W.no 0 100000 (by kernel_rfl) ?_
    exact W.retT 0 100000 h (by kernel_rfl)

theorem version_letter_con {c_27 : Int} {r : Bool} (h : version_letter c_27 = some r) : Con Go.Proofs.Tryd.prog 73 [AV.int IntKind.u8 c_27] [] (version_letter_res r) (version_letter_out r) := by
  refine W.con (by kernel_rfl) ?_
  unfold version_letter at h
  refine W.cond 0 100000 h (by kernel_rfl) (fun h => ?_) (fun h => ?_)
  ·
    refine W.yes 0 100000 (by kernel_rfl) ?_
    refine W.yes 0 100000 (by kernel_rfl) ?_
    refine W.cond 0 100000 h (by kernel_rfl) (fun h => ?_) (fun h => ?_)
    ·
      refine W.yes 0 100000 (by kernel_rfl) ?_
      refine W.yes 0 100000 (by kernel_rfl) ?_
      refine W.yes 0 100000 (by kernel_rfl) ?_
      refine W.yes 0 100000 (by kernel_rfl) ?_
      exact W.retT 0 100000 h (by kernel_rfl)
    ·
      refine W.no 0 100000 (by kernel_rfl) ?_
      refine W.no 0 100000 (by kernel_rfl) ?_
      refine W.cond 0 100000 h (by kernel_rfl) (fun h => ?_) (fun h => ?_)
      ·
        refine W.yes 0 100000 (by kernel_rfl) ?_
        refine W.no 0 100000 (by kernel_rfl) ?_
        refine W.yes 0 100000 (by kernel_rfl) ?_
        refine W.no 0 100000 (by kernel_rfl) ?_
        exact W.retT 0 100000 h (by kernel_rfl)
      ·
        refine W.no 0 100000 (by kernel_rfl) ?_
        refine W.no 0 100000 (by kernel_rfl) ?_
        refine W.no 0 100000 (by kernel_rfl) ?_
        refine W.no 0 100000 (by kernel_rfl) ?_
        exact W.retT 0 100000 h (by kernel_rfl)
  ·
    refine W.no 0 100000 (by kernel_rfl) ?_
    refine W.no 0 100000 (by kernel_rfl) ?_
    refine W.no 0 100000 (by kernel_rfl) ?_
    refine W.no 0 100000 (by kernel_rfl) ?_
    refine W.no 0 100000 (by kernel_rfl) ?_
    refine W.cond 0 100000 h (by kernel_rfl) (fun h => ?_) (fun h => ?_)
    ·
      refine W.yes 0 100000 (by kernel_rfl) ?_
      refine W.no 0 100000 (by kernel_rfl) ?_
      refine W.yes 0 100000 (by kernel_rfl) ?_
      refine W.no 0 100000 (by kernel_rfl) ?_
      exact W.retT 0 100000 h (by kernel_rfl)
    ·
      refine W.no 0 100000 (by kernel_rfl) ?_
      refine W.no 0 100000 (by kernel_rfl) ?_
      refine W.no 0 100000 (by kernel_rfl) ?_
      refine W.no 0 100000 (by kernel_rfl) ?_
      exact W.retT 0 100000 h (by kernel_rfl)

theorem cellarerref05_Letter_con {c_31 : Int} {r : Bool} (h : cellarerref05_Letter c_31 = some r) : Con Go.Proofs.Tryd.prog 58 [AV.int IntKind.u8 c_31] [] (cellarerref05_Letter_res r) (cellarerref05_Letter_out r) := by
  refine W.con (by kernel_rfl) ?_
  unfold cellarerref05_Letter at h
  refine W.cond 0 100000 h (by kernel_rfl) (fun h => ?_) (fun h => ?_)
  ·
    refine W.yes 0 100000 (by kernel_rfl) ?_
    refine W.yes 0 100000 (by kernel_rfl) ?_
    refine W.cond 0 100000 h (by kernel_rfl) (fun h => ?_) (fun h => ?_)
    ·
      refine W.yes 0 100000 (by kernel_rfl) ?_
      refine W.yes 0 100000 (by kernel_rfl) ?_
      refine W.yes 0 100000 (by kernel_rfl) ?_
      refine W.yes 0 100000 (by kernel_rfl) ?_
      exact W.retT 0 100000 h (by kernel_rfl)
    ·
      refine W.no 0 100000 (by kernel_rfl) ?_
      refine W.no 0 100000 (by kernel_rfl) ?_
      refine W.cond 0 100000 h (by kernel_rfl) (fun h => ?_) (fun h => ?_)
      ·
        refine W.yes 0 100000 (by kernel_rfl) ?_
        refine W.no 0 100000 (by kernel_rfl) ?_
        refine W.yes 0 100000 (by kernel_rfl) ?_
        refine W.no 0 100000 (by kernel_rfl) ?_
        exact W.retT 0 100000 h (by kernel_rfl)
      ·
        refine W.no 0 100000 (by kernel_rfl) ?_
        refine W.no 0 100000 (by kernel_rfl) ?_
        refine W.no 0 100000 (by kernel_rfl) ?_
        refine W.no 0 100000 (by kernel_rfl) ?_
        exact W.retT 0 100000 h (by kernel_rfl)
  ·
    refine W.no 0 100000 (by kernel_rfl) ?_
    refine W.no 0 100000 (by kernel_rfl) ?_
    refine W.no 0 100000 (by kernel_rfl) ?_
    refine W.no 0 100000 (by kernel_rfl) ?_
    refine W.no 0 100000 (by kernel_rfl) ?_
    refine W.cond 0 100000 h (by kernel_rfl) (fun h => ?_) (fun h => ?_)
    ·
      refine W.yes 0 100000 (by kernel_rfl) ?_
      refine W.no 0 100000 (by kernel_rfl) ?_
      refine W.yes 0 100000 (by kernel_rfl) ?_
      refine W.no 0 100000 (by kernel_rfl) ?_
      exact W.retT 0 100000 h (by kernel_rfl)
    ·
      refine W.no 0 100000 (by kernel_rfl) ?_
      refine W.no 0 100000 (by kernel_rfl) ?_
      refine W.no 0 100000 (by kernel_rfl) ?_
      refine W.no 0 100000 (by kernel_rfl) ?_
      exact W.retT 0 100000 h (by kernel_rfl)

theorem stringslite_IndexByte_con {s_38 : List UInt8} {c_39 : Int} {r : Int} (h : stringslite_IndexByte s_38 c_39 = some r) : Con Go.Proofs.Tryd.prog 76 [AV.str s_38, AV.int IntKind.u8 c_39] [] (stringslite_IndexByte_res r) (stringslite_IndexByte_out r) := by
  refine W.con (by kernel_rfl) ?_
  unfold stringslite_IndexByte at h
  refine W.needT 0 100000 h (by kernel_rfl) (fun h => ?_)
  exact W.retT 0 100000 h (by kernel_rfl)

theorem strings_IndexByte_con {s_36 : List UInt8} {c_37 : Int} {r : Int} (h : strings_IndexByte s_36 c_37 = some r) : Con Go.Proofs.Tryd.prog 69 [AV.str s_36, AV.int IntKind.u8 c_37] [] (strings_IndexByte_res r) (strings_IndexByte_out r) := by
  refine W.con (by kernel_rfl) ?_
  unfold strings_IndexByte at h
  refine W.bind h fun a_42 ha_42 h => ?_
  refine W.call 0 100000 (by kernel_rfl) (stringslite_IndexByte_con ha_42) (by kernel_rfl) ?_
  exact W.retT 0 100000 h (by kernel_rfl)

theorem bytealg_LastIndexByteString_con {s_49 : List UInt8} {c_50 : Int} {r : Int} (h : bytealg_LastIndexByteString s_49 c_50 = some r) : Con Go.Proofs.Tryd.prog 77 [AV.str s_49, AV.int IntKind.u8 c_50] [] (bytealg_LastIndexByteString_res r) (bytealg_LastIndexByteString_out r) := by
  refine W.con (by kernel_rfl) ?_
  unfold bytealg_LastIndexByteString at h
  refine W.at 0 100000 [] [0, 1, 5] (c' := (fun (s_61 : Int) => (Cfg.mk Mode.run (headTodo Go.Proofs.Tryd.prog 77 0) (St.mk [AV.str s_49, AV.int IntKind.u8 c_50, jj, jj, jj, AV.int IntKind.i64 s_61, jj, jj, jj, jj, jj, jj, jj, jj, jj, jj, jj, jj, jj] [] (0 : Nat)))) (IntKind.wrap IntKind.i64 ((↑(List.length s_49) : Int) - (1 : Int)))) (by kernel_rfl) ?_
  refine W.loop (fun (s_61 : Int) => (Cfg.mk Mode.run (headTodo Go.Proofs.Tryd.prog 77 0) (St.mk [AV.str s_49, AV.int IntKind.u8 c_50, jj, jj, jj, AV.int IntKind.i64 s_61, jj, jj, jj, jj, jj, jj, jj, jj, jj, jj, jj, jj, jj] [] (0 : Nat)))) (fun t => (Sum.elim (fun t_55 => r = (t_55)) (fun t_56 => Walk Go.Proofs.Tryd.prog 77 (Cfg.mk Mode.run ((headTodo Go.Proofs.Tryd.prog 77 0).drop 3) (St.mk [jj, jj, jj, jj, jj, jj, jj, jj, jj, jj, jj, jj, jj, jj, jj, jj, jj, jj, jj] [] (0 : Nat))) (bytealg_LastIndexByteString_res r) (bytealg_LastIndexByteString_out r))) t) h (fun t h => ?_) (fun s_61 x58 h58 K58 => ?_)
  ·
    rcases t with t_55 | t_56
    · replace h := W.inl (h)
      refine W.elimL (?_)
      exact (Option.some.inj h).symm
    · replace h := W.inr (h)
      refine W.elimR (?_)
      exact W.retT 0 100000 h (by kernel_rfl)
  · unfold bytealg_LastIndexByteString_b0 at h58
    refine W.cond 2 100000 h58 (by kernel_rfl) (fun h58 => ?_) (fun h58 => ?_)
    ·
      refine W.needT 2 100000 h58 (by kernel_rfl) (fun h58 => ?_)
      refine W.cond 2 100000 h58 (by kernel_rfl) (fun h58 => ?_) (fun h58 => ?_)
      ·
        cases h58; exact W.retK 2 100000 K58 (by kernel_rfl)
      ·
        cases h58; exact W.at 2 100000 [] [0, 1, 5] (by kernel_rfl) K58
    ·
      cases h58; exact W.at 2 100000 [] [] (by kernel_rfl) K58

theorem strings_LastIndexByte_con {s_47 : List UInt8} {c_48 : Int} {r : Int} (h : strings_LastIndexByte s_47 c_48 = some r) : Con Go.Proofs.Tryd.prog 71 [AV.str s_47, AV.int IntKind.u8 c_48] [] (strings_LastIndexByte_res r) (strings_LastIndexByte_out r) := by
  refine W.con (by kernel_rfl) ?_
  unfold strings_LastIndexByte at h
  refine W.bind h fun a_62 ha_62 h => ?_
  refine W.call 0 100000 (by kernel_rfl) (bytealg_LastIndexByteString_con ha_62) (by kernel_rfl) ?_
  exact W.retT 0 100000 h (by kernel_rfl)

theorem version_only_con {s_67 : List UInt8} {marks_68 : List UInt8} {r : Bool} (h : version_only s_67 marks_68 = some r) : Con Go.Proofs.Tryd.prog 72 [AV.str s_67, AV.str marks_68] [] (version_only_res r) (version_only_out r) := by
  refine W.con (by kernel_rfl) ?_
  unfold version_only at h
  refine W.at 0 100000 [] [0, 1, 7, 8] (c' := (fun (s_82 : Int) => (Cfg.mk Mode.run (headTodo Go.Proofs.Tryd.prog 72 0) (St.mk [AV.str s_67, AV.str marks_68, jj, jj, jj, jj, jj, AV.int IntKind.i64 (↑(List.length s_67) : Int), AV.int IntKind.i64 s_82, jj, jj, jj, jj, jj, jj, jj, jj, jj, jj, jj, jj, jj, jj, jj, jj, jj, jj, jj, jj, jj, jj, jj] [] (0 : Nat)))) ((0 : Int))) (by kernel_rfl) ?_
  refine W.loop (fun (s_82 : Int) => (Cfg.mk Mode.run (headTodo Go.Proofs.Tryd.prog 72 0) (St.mk [AV.str s_67, AV.str marks_68, jj, jj, jj, jj, jj, AV.int IntKind.i64 (↑(List.length s_67) : Int), AV.int IntKind.i64 s_82, jj, jj, jj, jj, jj, jj, jj, jj, jj, jj, jj, jj, jj, jj, jj, jj, jj, jj, jj, jj, jj, jj, jj] [] (0 : Nat)))) (fun t => (Sum.elim (fun t_76 => r = (Bool.false)) (fun t_77 => Walk Go.Proofs.Tryd.prog 72 (Cfg.mk Mode.run ((headTodo Go.Proofs.Tryd.prog 72 0).drop 3) (St.mk [jj, jj, jj, jj, jj, jj, jj, jj, jj, jj, jj, jj, jj, jj, jj, jj, jj, jj, jj, jj, jj, jj, jj, jj, jj, jj, jj, jj, jj, jj, jj, jj] [] (0 : Nat))) (version_only_res r) (version_only_out r))) t) h (fun t h => ?_) (fun s_82 x79 h79 K79 => ?_)
  ·
    rcases t with t_76 | t_77
    · replace h := W.inl (h)
      refine W.elimL (?_)
      exact (Option.some.inj h).symm
    · replace h := W.inr (h)
      refine W.elimR (?_)
      exact W.retT 0 100000 h (by kernel_rfl)
  · unfold version_only_b0 at h79
    refine W.cond 2 100000 h79 (by kernel_rfl) (fun h79 => ?_) (fun h79 => ?_)
    ·
      refine W.needT 2 100000 h79 (by kernel_rfl) (fun h79 => ?_)
      refine W.bind h79 fun a_73 ha_73 h79 => ?_
      refine W.call 2 100000 (by kernel_rfl) (version_digit_con ha_73) (by kernel_rfl) ?_
      refine W.cond 2 100000 h79 (by kernel_rfl) (fun h79 => ?_) (fun h79 => ?_)
      ·
        refine W.yes 2 100000 (by kernel_rfl) ?_
        refine W.yes 2 100000 (by kernel_rfl) ?_
        refine W.needT 2 100000 h79 (by kernel_rfl) (fun h79 => ?_)
        refine W.yes 2 100000 (by kernel_rfl) ?_
        refine W.bind h79 fun a_74 ha_74 h79 => ?_
        refine W.call 2 100000 (by kernel_rfl) (version_letter_con ha_74) (by kernel_rfl) ?_
        refine W.yes 2 100000 (by kernel_rfl) ?_
        refine W.yes 2 100000 (by kernel_rfl) ?_
        refine W.cond 2 100000 h79 (by kernel_rfl) (fun h79 => ?_) (fun h79 => ?_)
        ·
          refine W.yes 2 100000 (by kernel_rfl) ?_
          refine W.yes 2 100000 (by kernel_rfl) ?_
          refine W.yes 2 100000 (by kernel_rfl) ?_
          refine W.needT 2 100000 h79 (by kernel_rfl) (fun h79 => ?_)
          refine W.yes 2 100000 (by kernel_rfl) ?_
          refine W.bind h79 fun a_75 ha_75 h79 => ?_
          refine W.call 2 100000 (by kernel_rfl) (strings_IndexByte_con ha_75) (by kernel_rfl) ?_
          refine W.yes 2 100000 (by kernel_rfl) ?_
          refine W.yes 2 100000 (by kernel_rfl) ?_
          refine W.cond 2 100000 h79 (by kernel_rfl) (fun h79 => ?_) (fun h79 => ?_)
          ·
            cases h79; exact W.retK 2 100000 K79 (by kernel_rfl)
          ·
            cases h79; exact W.at 2 100000 [] [0, 1, 7, 8] (by kernel_rfl) K79
        ·
          refine W.no 2 100000 (by kernel_rfl) ?_
          refine W.no 2 100000 (by kernel_rfl) ?_
          refine W.no 2 100000 (by kernel_rfl) ?_
          refine W.no 2 100000 (by kernel_rfl) ?_
          refine W.no 2 100000 (by kernel_rfl) ?_
          refine W.no 2 100000 (by kernel_rfl) ?_
          refine W.no 2 100000 (by kernel_rfl) ?_
          cases h79; exact W.at 2 100000 [] [0, 1, 7, 8] (by kernel_rfl) K79
      ·
        refine W.no 2 100000 (by kernel_rfl) ?_
        refine W.no 2 100000 (by kernel_rfl) ?_
        refine W.no 2 100000 (by kernel_rfl) ?_
        refine W.no 2 100000 (by kernel_rfl) ?_
        refine W.no 2 100000 (by kernel_rfl) ?_
        refine W.no 2 100000 (by kernel_rfl) ?_
        refine W.no 2 100000 (by kernel_rfl) ?_
        refine W.no 2 100000 (by kernel_rfl) ?_
        refine W.no 2 100000 (by kernel_rfl) ?_
        refine W.no 2 100000 (by kernel_rfl) ?_
        refine W.no 2 100000 (by kernel_rfl) ?_
        refine W.no 2 100000 (by kernel_rfl) ?_
        refine W.no 2 100000 (by kernel_rfl) ?_
        cases h79; exact W.at 2 100000 [] [0, 1, 7, 8] (by kernel_rfl) K79
    ·
      cases h79; exact W.at 2 100000 [] [] (by kernel_rfl) K79

theorem cellarerref05_only_con {s_85 : List UInt8} {marks_86 : List UInt8} {r : Bool} (h : cellarerref05_only s_85 marks_86 = some r) : Con Go.Proofs.Tryd.prog 53 [AV.str s_85, AV.str marks_86] [] (cellarerref05_only_res r) (cellarerref05_only_out r) := by
  refine W.con (by kernel_rfl) ?_
  unfold cellarerref05_only at h
  refine W.at 0 100000 [] [0, 1, 5] (c' := (fun (s_99 : Int) => (Cfg.mk Mode.run (headTodo Go.Proofs.Tryd.prog 53 0) (St.mk [AV.str s_85, AV.str marks_86, jj, jj, jj, AV.int IntKind.i64 s_99, jj, jj, jj, jj, jj, jj, jj, jj, jj, jj, jj, jj, jj, jj, jj, jj, jj, jj, jj, jj, jj, jj, jj, jj, jj, jj] [] (0 : Nat)))) ((0 : Int))) (by kernel_rfl) ?_
  refine W.loop (fun (s_99 : Int) => (Cfg.mk Mode.run (headTodo Go.Proofs.Tryd.prog 53 0) (St.mk [AV.str s_85, AV.str marks_86, jj, jj, jj, AV.int IntKind.i64 s_99, jj, jj, jj, jj, jj, jj, jj, jj, jj, jj, jj, jj, jj, jj, jj, jj, jj, jj, jj, jj, jj, jj, jj, jj, jj, jj] [] (0 : Nat)))) (fun t => (Sum.elim (fun t_93 => r = (Bool.false)) (fun t_94 => Walk Go.Proofs.Tryd.prog 53 (Cfg.mk Mode.run ((headTodo Go.Proofs.Tryd.prog 53 0).drop 3) (St.mk [jj, jj, jj, jj, jj, jj, jj, jj, jj, jj, jj, jj, jj, jj, jj, jj, jj, jj, jj, jj, jj, jj, jj, jj, jj, jj, jj, jj, jj, jj, jj, jj] [] (0 : Nat))) (cellarerref05_only_res r) (cellarerref05_only_out r))) t) h (fun t h => ?_) (fun s_99 x96 h96 K96 => ?_)
  ·
    rcases t with t_93 | t_94
    · replace h := W.inl (h)
      refine W.elimL (?_)
      exact (Option.some.inj h).symm
    · replace h := W.inr (h)
      refine W.elimR (?_)
      exact W.retT 0 100000 h (by kernel_rfl)
  · unfold cellarerref05_only_b0 at h96
    refine W.cond 2 100000 h96 (by kernel_rfl) (fun h96 => ?_) (fun h96 => ?_)
    ·
      refine W.needT 2 100000 h96 (by kernel_rfl) (fun h96 => ?_)
      refine W.bind h96 fun a_90 ha_90 h96 => ?_
      refine W.call 2 100000 (by kernel_rfl) (cellarerref05_Digit_con ha_90) (by kernel_rfl) ?_
      refine W.cond 2 100000 h96 (by kernel_rfl) (fun h96 => ?_) (fun h96 => ?_)
      ·
        refine W.yes 2 100000 (by kernel_rfl) ?_
        refine W.yes 2 100000 (by kernel_rfl) ?_
        refine W.needT 2 100000 h96 (by kernel_rfl) (fun h96 => ?_)
        refine W.yes 2 100000 (by kernel_rfl) ?_
        refine W.bind h96 fun a_91 ha_91 h96 => ?_
        refine W.call 2 100000 (by kernel_rfl) (cellarerref05_Letter_con ha_91) (by kernel_rfl) ?_
        refine W.yes 2 100000 (by kernel_rfl) ?_
        refine W.yes 2 100000 (by kernel_rfl) ?_
        refine W.cond 2 100000 h96 (by kernel_rfl) (fun h96 => ?_) (fun h96 => ?_)
        ·
          refine W.yes 2 100000 (by kernel_rfl) ?_
          refine W.yes 2 100000 (by kernel_rfl) ?_
          refine W.yes 2 100000 (by kernel_rfl) ?_
          refine W.needT 2 100000 h96 (by kernel_rfl) (fun h96 => ?_)
          refine W.yes 2 100000 (by kernel_rfl) ?_
          refine W.bind h96 fun a_92 ha_92 h96 => ?_
          refine W.call 2 100000 (by kernel_rfl) (cellarerref05_at_con ha_92) (by kernel_rfl) ?_
          refine W.yes 2 100000 (by kernel_rfl) ?_
          refine W.yes 2 100000 (by kernel_rfl) ?_
          refine W.cond 2 100000 h96 (by kernel_rfl) (fun h96 => ?_) (fun h96 => ?_)
          ·
            cases h96; exact W.retK 2 100000 K96 (by kernel_rfl)
          ·
            cases h96; exact W.at 2 100000 [] [0, 1, 5] (by kernel_rfl) K96
        ·
          refine W.no 2 100000 (by kernel_rfl) ?_
          refine W.no 2 100000 (by kernel_rfl) ?_
          refine W.no 2 100000 (by kernel_rfl) ?_
          refine W.no 2 100000 (by kernel_rfl) ?_
          refine W.no 2 100000 (by kernel_rfl) ?_
          refine W.no 2 100000 (by kernel_rfl) ?_
          refine W.no 2 100000 (by kernel_rfl) ?_
          cases h96; exact W.at 2 100000 [] [0, 1, 5] (by kernel_rfl) K96
      ·
        refine W.no 2 100000 (by kernel_rfl) ?_
        refine W.no 2 100000 (by kernel_rfl) ?_
        refine W.no 2 100000 (by kernel_rfl) ?_
        refine W.no 2 100000 (by kernel_rfl) ?_
        refine W.no 2 100000 (by kernel_rfl) ?_
        refine W.no 2 100000 (by kernel_rfl) ?_
        refine W.no 2 100000 (by kernel_rfl) ?_
        refine W.no 2 100000 (by kernel_rfl) ?_
        refine W.no 2 100000 (by kernel_rfl) ?_
        refine W.no 2 100000 (by kernel_rfl) ?_
        refine W.no 2 100000 (by kernel_rfl) ?_
        refine W.no 2 100000 (by kernel_rfl) ?_
        refine W.no 2 100000 (by kernel_rfl) ?_
        cases h96; exact W.at 2 100000 [] [0, 1, 5] (by kernel_rfl) K96
    ·
      cases h96; exact W.at 2 100000 [] [] (by kernel_rfl) K96

theorem version_epoch_con {s_101 : List UInt8} {r : Int × Bool} (h : version_epoch s_101 = some r) : Con Go.Proofs.Tryd.prog 70 [AV.str s_101] [] (version_epoch_res r) (version_epoch_out r) := by
  refine W.con (by kernel_rfl) ?_
  unfold version_epoch at h
  refine W.join (fun t => (Sum.elim (fun t_102 => r = ((0 : Int), Bool.false)) (fun t_103 => Walk Go.Proofs.Tryd.prog 70 (Cfg.mk Mode.run (seqTodo Go.Proofs.Tryd.prog 70 1) (St.mk [AV.str s_101, jj, jj, jj, jj, jj, jj, jj, jj, jj, jj, jj, jj, jj, jj, jj, jj, jj, jj, jj, jj, jj, jj, jj, jj, jj, jj, jj, jj, jj, jj, jj, jj, jj] [] (0 : Nat))) (version_epoch_res r) (version_epoch_out r))) t) h (fun t h => ?_) (fun t114 h114 K114 => ?_)
  ·
    rcases t with t_102 | t_103
    · replace h := W.inl (h)
      refine W.elimL (?_)
      exact (Option.some.inj h).symm
    · replace h := W.inr (h)
      refine W.elimR (?_)
      refine W.at 0 100000 [] [0, 4, 15, 16] (c' := (fun (s_118 : Int × Int) => (Cfg.mk Mode.run (headTodo Go.Proofs.Tryd.prog 70 0) (St.mk [AV.str s_101, jj, jj, jj, AV.int IntKind.i64 (Prod.fst s_118), jj, jj, jj, jj, jj, jj, jj, jj, jj, jj, AV.int IntKind.i64 (↑(List.length s_101) : Int), AV.int IntKind.i64 (Prod.snd s_118), jj, jj, jj, jj, jj, jj, jj, jj, jj, jj, jj, jj, jj, jj, jj, jj, jj] [] (0 : Nat)))) ((0 : Int), (0 : Int))) (by kernel_rfl) ?_
      refine W.loop (fun (s_118 : Int × Int) => (Cfg.mk Mode.run (headTodo Go.Proofs.Tryd.prog 70 0) (St.mk [AV.str s_101, jj, jj, jj, AV.int IntKind.i64 (Prod.fst s_118), jj, jj, jj, jj, jj, jj, jj, jj, jj, jj, AV.int IntKind.i64 (↑(List.length s_101) : Int), AV.int IntKind.i64 (Prod.snd s_118), jj, jj, jj, jj, jj, jj, jj, jj, jj, jj, jj, jj, jj, jj, jj, jj, jj] [] (0 : Nat)))) (fun t => (Sum.elim (fun t_109 => r = ((0 : Int), Bool.false)) (fun t_111 => Walk Go.Proofs.Tryd.prog 70 (Cfg.mk Mode.run ((headTodo Go.Proofs.Tryd.prog 70 0).drop 3) (St.mk [jj, jj, jj, jj, AV.int IntKind.i64 t_111, jj, jj, jj, jj, jj, jj, jj, jj, jj, jj, jj, jj, jj, jj, jj, jj, jj, jj, jj, jj, jj, jj, jj, jj, jj, jj, jj, jj, jj] [] (0 : Nat))) (version_epoch_res r) (version_epoch_out r))) t) h (fun t h => ?_) (fun s_118 x113 h113 K113 => ?_)
      ·
        rcases t with t_109 | t_111
        · replace h := W.inl (h)
          refine W.elimL (?_)
          exact (Option.some.inj h).symm
        · replace h := W.inr (h)
          refine W.elimR (?_)
          exact W.retT 0 100000 h (by kernel_rfl)
      · unfold version_epoch_b0 at h113
        refine W.cond 2 100000 h113 (by kernel_rfl) (fun h113 => ?_) (fun h113 => ?_)
        ·
          refine W.needT 2 100000 h113 (by kernel_rfl) (fun h113 => ?_)
          refine W.bind h113 fun a_108 ha_108 h113 => ?_
          refine W.call 2 100000 (by kernel_rfl) (version_digit_con ha_108) (by kernel_rfl) ?_
          refine W.cond 2 100000 h113 (by kernel_rfl) (fun h113 => ?_) (fun h113 => ?_)
          ·
            cases h113; exact W.retK 2 100000 K113 (by kernel_rfl)
          ·
            refine W.needT 2 100000 h113 (by kernel_rfl) (fun h113 => ?_)
            cases h113; exact W.at 2 100000 [] [0, 4, 15, 16] (by kernel_rfl) K113
        ·
          cases h113; exact W.at 2 100000 [] [4] (by kernel_rfl) K113
  · refine W.next 0 6 (by kernel_rfl) ?_
    refine W.cond 1 100000 h114 (by kernel_rfl) (fun h114 => ?_) (fun h114 => ?_)
    ·
      refine W.yes 1 100000 (by kernel_rfl) ?_
      refine W.yes 1 100000 (by kernel_rfl) ?_
      refine W.yes 1 100000 (by kernel_rfl) ?_
      refine W.yes 1 100000 (by kernel_rfl) ?_
      cases h114; exact W.retK 1 100000 K114 (by kernel_rfl)
    ·
      refine W.no 1 100000 (by kernel_rfl) ?_
      refine W.no 1 100000 (by kernel_rfl) ?_
      refine W.no 1 100000 (by kernel_rfl) ?_
      refine W.cond 1 100000 h114 (by kernel_rfl) (fun h114 => ?_) (fun h114 => ?_)
      ·
        cases h114; exact W.retK 1 100000 K114 (by kernel_rfl)
      ·
        cases h114; exact W.at 1 100000 [] [0] (by kernel_rfl) K114

theorem strings_trimLeftByte_con {s_136 : List UInt8} {c_137 : Int} {r : List UInt8} (h : strings_trimLeftByte s_136 c_137 = some r) : Con Go.Proofs.Tryd.prog 78 [AV.str s_136, AV.int IntKind.u8 c_137] [] (strings_trimLeftByte_res r) (strings_trimLeftByte_out r) := by
  refine W.con (by kernel_rfl) ?_
  unfold strings_trimLeftByte at h
  refine W.at 0 100000 [] [0, 1] (c' := (fun (s_149 : List UInt8) => (Cfg.mk Mode.run (headTodo Go.Proofs.Tryd.prog 78 0) (St.mk [AV.str s_149, AV.int IntKind.u8 c_137, jj, jj, jj, jj, jj, jj, jj, jj, jj, jj, jj, jj, jj, jj, jj] [] (0 : Nat)))) (s_136)) (by kernel_rfl) ?_
  refine W.loop (fun (s_149 : List UInt8) => (Cfg.mk Mode.run (headTodo Go.Proofs.Tryd.prog 78 0) (St.mk [AV.str s_149, AV.int IntKind.u8 c_137, jj, jj, jj, jj, jj, jj, jj, jj, jj, jj, jj, jj, jj, jj, jj] [] (0 : Nat)))) (fun t_144 => Walk Go.Proofs.Tryd.prog 78 (Cfg.mk Mode.run ((headTodo Go.Proofs.Tryd.prog 78 0).drop 3) (St.mk [AV.str t_144, jj, jj, jj, jj, jj, jj, jj, jj, jj, jj, jj, jj, jj, jj, jj, jj] [] (0 : Nat))) (strings_trimLeftByte_res r) (strings_trimLeftByte_out r)) h (fun t_144 h => ?_) (fun s_149 x146 h146 K146 => ?_)
  ·
    exact W.retT 0 100000 h (by kernel_rfl)
  · unfold strings_trimLeftByte_b0 at h146
    refine W.join (fun t => (Sum.elim (fun t_140 => Walk Go.Proofs.Tryd.prog 78 (Cfg.mk Mode.run (seqTodo Go.Proofs.Tryd.prog 78 2) (St.mk [AV.str s_149, AV.int IntKind.u8 c_137, jj, jj, jj, jj, jj, jj, jj, jj, jj, jj, jj, jj, jj, jj, jj] [] (0 : Nat))) (strings_trimLeftByte_res r) (strings_trimLeftByte_out r)) (fun t_141 => Walk Go.Proofs.Tryd.prog 78 (Cfg.mk Mode.run ((seqTodo Go.Proofs.Tryd.prog 78 2).drop 3) (St.mk [AV.str s_149, jj, jj, jj, jj, jj, jj, jj, jj, jj, jj, jj, jj, jj, jj, jj, jj] [] (0 : Nat))) (strings_trimLeftByte_res r) (strings_trimLeftByte_out r))) t) h146 (fun t h146 => ?_) (fun t143 h143 K143 => ?_)
    ·
      rcases t with t_140 | t_141
      · replace h146 := W.inl (h146)
        refine W.elimL (?_)
        refine W.needT 2 100000 h146 (by kernel_rfl) (fun h146 => ?_)
        cases h146; exact W.at 2 100000 [] [0, 1] (by kernel_rfl) K146
      · replace h146 := W.inr (h146)
        refine W.elimR (?_)
        cases h146; exact W.at 2 100000 [] [0] (by kernel_rfl) K146
    · refine W.next 2 1 (by kernel_rfl) ?_
      refine W.cond 4 100000 h143 (by kernel_rfl) (fun h143 => ?_) (fun h143 => ?_)
      ·
        refine W.yes 4 100000 (by kernel_rfl) ?_
        refine W.needT 4 100000 h143 (by kernel_rfl) (fun h143 => ?_)
        refine W.yes 4 100000 (by kernel_rfl) ?_
        refine W.yes 4 100000 (by kernel_rfl) ?_
        refine W.yes 4 100000 (by kernel_rfl) ?_
        refine W.cond 4 100000 h143 (by kernel_rfl) (fun h143 => ?_) (fun h143 => ?_)
        ·
          cases h143; exact W.at 4 100000 [] [0, 1] (by kernel_rfl) K143
        ·
          cases h143; exact W.at 4 100000 [] [0] (by kernel_rfl) K143
      ·
        refine W.no 4 100000 (by kernel_rfl) ?_
        refine W.no 4 100000 (by kernel_rfl) ?_
        refine W.no 4 100000 (by kernel_rfl) ?_
        refine W.no 4 100000 (by kernel_rfl) ?_
        refine W.no 4 100000 (by kernel_rfl) ?_
        cases h143; exact W.at 4 100000 [] [0] (by kernel_rfl) K143

theorem strings_TrimLeft_con {s_165 : List UInt8} {r : List UInt8} (h : strings_TrimLeft s_165 = some r) : Con Go.Proofs.Tryd.prog 74 [AV.str s_165, AV.str [(48 : UInt8)]] [] (strings_TrimLeft_res r) (strings_TrimLeft_out r) := by
  refine W.con (by kernel_rfl) ?_
  unfold strings_TrimLeft at h
  refine W.join (fun t => (Sum.elim (fun t_166 => r = (s_165)) (fun t_167 => Walk Go.Proofs.Tryd.prog 74 (Cfg.mk Mode.run (seqTodo Go.Proofs.Tryd.prog 74 1) (St.mk [AV.str s_165, AV.str [(48 : UInt8)], jj, jj, jj, jj, jj, jj, jj, jj, jj, jj, jj, jj, jj, jj, jj, jj, jj, jj, jj, jj, jj, jj, jj, jj, jj, jj, jj, jj, jj, jj, jj, jj, jj, jj, jj] [] (0 : Nat))) (strings_TrimLeft_res r) (strings_TrimLeft_out r))) t) h (fun t h => ?_) (fun t173 h173 K173 => ?_)
  ·
    rcases t with t_166 | t_167
    · replace h := W.inl (h)
      refine W.elimL (?_)
      exact (Option.some.inj h).symm
    · replace h := W.inr (h)
      refine W.elimR (?_)
      refine W.join (fun t_170 => r = (t_170)) h (fun t_170 h => ?_) (fun t172 h172 K172 => ?_)
      ·
        exact (Option.some.inj h).symm
      · refine W.next 0 1 (by kernel_rfl) ?_
        refine W.yes 1 100000 (by kernel_rfl) ?_
        refine W.yes 1 100000 (by kernel_rfl) ?_
        refine W.need 1 100000 (p := (0 : Int) ≤ (0 : Int) ∧ (0 : Int) < (↑(List.length ((fun (x : List UInt8) => x) [(48 : UInt8)])) : Int)) (by kernel_rfl) (by decide) ?_
        refine W.yes 1 100000 (by kernel_rfl) ?_
        refine W.yes 1 100000 (by kernel_rfl) ?_
        refine W.yes 1 100000 (by kernel_rfl) ?_
        refine W.need 1 100000 (p := (0 : Int) ≤ (0 : Int) ∧ (0 : Int) < (↑(List.length ((fun (x : List UInt8) => x) [(48 : UInt8)])) : Int)) (by kernel_rfl) (by decide) ?_
        refine W.bind h172 fun a_168 ha_168 h172 => ?_
        refine W.call 1 100000 (by kernel_rfl) (strings_trimLeftByte_con ha_168) (by kernel_rfl) ?_
        cases h172; exact W.retK 1 100000 K172 (by kernel_rfl)
  · refine W.next 0 5 (by kernel_rfl) ?_
    refine W.cond 1 100000 h173 (by kernel_rfl) (fun h173 => ?_) (fun h173 => ?_)
    ·
      refine W.yes 1 100000 (by kernel_rfl) ?_
      refine W.yes 1 100000 (by kernel_rfl) ?_
      refine W.yes 1 100000 (by kernel_rfl) ?_
      cases h173; exact W.retK 1 100000 K173 (by kernel_rfl)
    ·
      refine W.no 1 100000 (by kernel_rfl) ?_
      refine W.no 1 100000 (by kernel_rfl) ?_
      refine W.no 1 100000 (by kernel_rfl) ?_
      cases h173; exact W.at 1 100000 [] [0, 1] (by kernel_rfl) K173

theorem version_number_con {s_121 : List UInt8} {i_122 : Int} {r : List UInt8 × Int} (h : version_number s_121 i_122 = some r) : Con Go.Proofs.Tryd.prog 66 [AV.str s_121, AV.int IntKind.i64 i_122] [] (version_number_res r) (version_number_out r) := by
  refine W.con (by kernel_rfl) ?_
  unfold version_number at h
  refine W.at 0 100000 [] [0, 1, 6] (c' := (fun (s_181 : Int) => (Cfg.mk Mode.run (headTodo Go.Proofs.Tryd.prog 66 0) (St.mk [AV.str s_121, AV.int IntKind.i64 s_181, jj, jj, jj, jj, AV.int IntKind.i64 i_122, jj, jj, jj, jj, jj, jj, jj, jj, jj, jj, jj, jj, jj, jj, jj, jj, jj, jj, jj] [] (0 : Nat)))) (i_122)) (by kernel_rfl) ?_
  refine W.loop (fun (s_181 : Int) => (Cfg.mk Mode.run (headTodo Go.Proofs.Tryd.prog 66 0) (St.mk [AV.str s_121, AV.int IntKind.i64 s_181, jj, jj, jj, jj, AV.int IntKind.i64 i_122, jj, jj, jj, jj, jj, jj, jj, jj, jj, jj, jj, jj, jj, jj, jj, jj, jj, jj, jj] [] (0 : Nat)))) (fun t_131 => Walk Go.Proofs.Tryd.prog 66 (Cfg.mk Mode.run ((headTodo Go.Proofs.Tryd.prog 66 0).drop 3) (St.mk [AV.str s_121, AV.int IntKind.i64 t_131, jj, jj, jj, jj, AV.int IntKind.i64 i_122, jj, jj, jj, jj, jj, jj, jj, jj, jj, jj, jj, jj, jj, jj, jj, jj, jj, jj, jj] [] (0 : Nat))) (version_number_res r) (version_number_out r)) h (fun t_131 h => ?_) (fun s_181 x177 h177 K177 => ?_)
  ·
    refine W.needT 0 100000 h (by kernel_rfl) (fun h => ?_)
    refine W.bind h fun a_175 ha_175 h => ?_
    refine W.call 0 100000 (by kernel_rfl) (strings_TrimLeft_con ha_175) (by kernel_rfl) ?_
    exact W.retT 0 100000 h (by kernel_rfl)
  · unfold version_number_b0 at h177
    refine W.join (fun t => (Sum.elim (fun t_127 => Walk Go.Proofs.Tryd.prog 66 (Cfg.mk Mode.run (seqTodo Go.Proofs.Tryd.prog 66 3) (St.mk [AV.str s_121, AV.int IntKind.i64 s_181, jj, jj, jj, jj, AV.int IntKind.i64 i_122, jj, jj, jj, jj, jj, jj, jj, jj, jj, jj, jj, jj, jj, jj, jj, jj, jj, jj, jj] [] (0 : Nat))) (version_number_res r) (version_number_out r)) (fun t_128 => Walk Go.Proofs.Tryd.prog 66 (Cfg.mk Mode.run ((seqTodo Go.Proofs.Tryd.prog 66 3).drop 3) (St.mk [AV.str s_121, AV.int IntKind.i64 s_181, jj, jj, jj, jj, AV.int IntKind.i64 i_122, jj, jj, jj, jj, jj, jj, jj, jj, jj, jj, jj, jj, jj, jj, jj, jj, jj, jj, jj] [] (0 : Nat))) (version_number_res r) (version_number_out r))) t) h177 (fun t h177 => ?_) (fun t130 h130 K130 => ?_)
    ·
      rcases t with t_127 | t_128
      · replace h177 := W.inl (h177)
        refine W.elimL (?_)
        cases h177; exact W.at 2 100000 [] [0, 1, 6] (by kernel_rfl) K177
      · replace h177 := W.inr (h177)
        refine W.elimR (?_)
        cases h177; exact W.at 2 100000 [] [0, 1, 6] (by kernel_rfl) K177
    · refine W.next 2 1 (by kernel_rfl) ?_
      refine W.cond 4 100000 h130 (by kernel_rfl) (fun h130 => ?_) (fun h130 => ?_)
      ·
        refine W.yes 4 100000 (by kernel_rfl) ?_
        refine W.yes 4 100000 (by kernel_rfl) ?_
        refine W.needT 4 100000 h130 (by kernel_rfl) (fun h130 => ?_)
        refine W.yes 4 100000 (by kernel_rfl) ?_
        refine W.bind h130 fun a_126 ha_126 h130 => ?_
        refine W.call 4 100000 (by kernel_rfl) (version_digit_con ha_126) (by kernel_rfl) ?_
        refine W.yes 4 100000 (by kernel_rfl) ?_
        refine W.cond 4 100000 h130 (by kernel_rfl) (fun h130 => ?_) (fun h130 => ?_)
        ·
          cases h130; exact W.at 4 100000 [] [0, 1, 6] (by kernel_rfl) K130
        ·
          cases h130; exact W.at 4 100000 [] [0, 1, 6] (by kernel_rfl) K130
      ·
        refine W.no 4 100000 (by kernel_rfl) ?_
        refine W.no 4 100000 (by kernel_rfl) ?_
        refine W.no 4 100000 (by kernel_rfl) ?_
        refine W.no 4 100000 (by kernel_rfl) ?_
        refine W.no 4 100000 (by kernel_rfl) ?_
        cases h130; exact W.at 4 100000 [] [0, 1, 6] (by kernel_rfl) K130

theorem version_weight_con {s_184 : List UInt8} {i_185 : Int} {r : Int} (h : version_weight s_184 i_185 = some r) : Con Go.Proofs.Tryd.prog 65 [AV.str s_184, AV.int IntKind.i64 i_185] [] (version_weight_res r) (version_weight_out r) := by
  refine W.con (by kernel_rfl) ?_
  unfold version_weight at h
  refine W.cond 0 100000 h (by kernel_rfl) (fun h => ?_) (fun h => ?_)
  ·
    refine W.yes 0 100000 (by kernel_rfl) ?_
    refine W.yes 0 100000 (by kernel_rfl) ?_
    refine W.yes 0 100000 (by kernel_rfl) ?_
    refine W.yes 0 100000 (by kernel_rfl) ?_
    refine W.yes 0 100000 (by kernel_rfl) ?_
    exact W.retT 0 100000 h (by kernel_rfl)
  ·
    refine W.no 0 100000 (by kernel_rfl) ?_
    refine W.no 0 100000 (by kernel_rfl) ?_
    refine W.needT 0 100000 h (by kernel_rfl) (fun h => ?_)
    refine W.no 0 100000 (by kernel_rfl) ?_
    refine W.bind h fun a_186 ha_186 h => ?_
    refine W.call 0 100000 (by kernel_rfl) (version_digit_con ha_186) (by kernel_rfl) ?_
    refine W.no 0 100000 (by kernel_rfl) ?_
    refine W.cond 0 100000 h (by kernel_rfl) (fun h => ?_) (fun h => ?_)
    ·
      exact W.retT 0 100000 h (by kernel_rfl)
    ·
      refine W.needT 0 100000 h (by kernel_rfl) (fun h => ?_)
      refine W.cond 0 100000 h (by kernel_rfl) (fun h => ?_) (fun h => ?_)
      ·
        exact W.retT 0 100000 h (by kernel_rfl)
      ·
        refine W.needT 0 100000 h (by kernel_rfl) (fun h => ?_)
        refine W.bind h fun a_187 ha_187 h => ?_
        refine W.call 0 100000 (by kernel_rfl) (version_letter_con ha_187) (by kernel_rfl) ?_
        refine W.cond 0 100000 h (by kernel_rfl) (fun h => ?_) (fun h => ?_)
        ·
          refine W.needT 0 100000 h (by kernel_rfl) (fun h => ?_)
          exact W.retT 0 100000 h (by kernel_rfl)
        ·
          refine W.needT 0 100000 h (by kernel_rfl) (fun h => ?_)
          exact W.retT 0 100000 h (by kernel_rfl)

theorem cellarerref05_piece_con {s_191 : List UInt8} {r : List UInt8 × List UInt8 × List UInt8} (h : cellarerref05_piece s_191 = some r) : Con Go.Proofs.Tryd.prog 59 [AV.str s_191] [] (cellarerref05_piece_res r) (cellarerref05_piece_out r) := by
  refine W.con (by kernel_rfl) ?_
  unfold cellarerref05_piece at h
  refine W.at 0 100000 [] [0, 5] (c' := (fun (s_228 : Int) => (Cfg.mk Mode.run (headTodo Go.Proofs.Tryd.prog 59 0) (St.mk [AV.str s_191, jj, jj, jj, jj, AV.int IntKind.i64 s_228, jj, jj, jj, jj, jj, jj, jj, jj, jj, jj, jj, jj, jj, jj, jj, jj, jj, jj, jj, jj, jj, jj, jj, jj, jj, jj, jj, jj, jj, jj, jj, jj, jj, jj, jj, jj, jj, jj, jj, jj, jj, jj, jj, jj, jj, jj, jj, jj, jj] [] (0 : Nat)))) ((0 : Int))) (by kernel_rfl) ?_
  refine W.loop (fun (s_228 : Int) => (Cfg.mk Mode.run (headTodo Go.Proofs.Tryd.prog 59 0) (St.mk [AV.str s_191, jj, jj, jj, jj, AV.int IntKind.i64 s_228, jj, jj, jj, jj, jj, jj, jj, jj, jj, jj, jj, jj, jj, jj, jj, jj, jj, jj, jj, jj, jj, jj, jj, jj, jj, jj, jj, jj, jj, jj, jj, jj, jj, jj, jj, jj, jj, jj, jj, jj, jj, jj, jj, jj, jj, jj, jj, jj, jj] [] (0 : Nat)))) (fun t_199 => Walk Go.Proofs.Tryd.prog 59 (Cfg.mk Mode.run ((headTodo Go.Proofs.Tryd.prog 59 0).drop 3) (St.mk [AV.str s_191, jj, jj, jj, jj, AV.int IntKind.i64 t_199, jj, jj, jj, jj, jj, jj, jj, jj, jj, jj, jj, jj, jj, jj, jj, jj, jj, jj, jj, jj, jj, jj, jj, jj, jj, jj, jj, jj, jj, jj, jj, jj, jj, jj, jj, jj, jj, jj, jj, jj, jj, jj, jj, jj, jj, jj, jj, jj, jj] [] (0 : Nat))) (cellarerref05_piece_res r) (cellarerref05_piece_out r)) h (fun t_199 h => ?_) (fun s_228 x221 h221 K221 => ?_)
  ·
    refine W.at 0 100000 [] [0, 5, 6] (c' := (fun (s_229 : Int) => (Cfg.mk Mode.run (headTodo Go.Proofs.Tryd.prog 59 1) (St.mk [AV.str s_191, jj, jj, jj, jj, AV.int IntKind.i64 t_199, AV.int IntKind.i64 s_229, jj, jj, jj, jj, jj, jj, jj, jj, jj, jj, jj, jj, jj, jj, jj, jj, jj, jj, jj, jj, jj, jj, jj, jj, jj, jj, jj, jj, jj, jj, jj, jj, jj, jj, jj, jj, jj, jj, jj, jj, jj, jj, jj, jj, jj, jj, jj, jj] [] (0 : Nat)))) (t_199)) (by kernel_rfl) ?_
    refine W.loop (fun (s_229 : Int) => (Cfg.mk Mode.run (headTodo Go.Proofs.Tryd.prog 59 1) (St.mk [AV.str s_191, jj, jj, jj, jj, AV.int IntKind.i64 t_199, AV.int IntKind.i64 s_229, jj, jj, jj, jj, jj, jj, jj, jj, jj, jj, jj, jj, jj, jj, jj, jj, jj, jj, jj, jj, jj, jj, jj, jj, jj, jj, jj, jj, jj, jj, jj, jj, jj, jj, jj, jj, jj, jj, jj, jj, jj, jj, jj, jj, jj, jj, jj, jj] [] (0 : Nat)))) (fun t_208 => Walk Go.Proofs.Tryd.prog 59 (Cfg.mk Mode.run ((headTodo Go.Proofs.Tryd.prog 59 1).drop 3) (St.mk [AV.str s_191, jj, jj, jj, jj, AV.int IntKind.i64 t_199, AV.int IntKind.i64 t_208, jj, jj, jj, jj, jj, jj, jj, jj, jj, jj, jj, jj, jj, jj, jj, jj, jj, jj, jj, jj, jj, jj, jj, jj, jj, jj, jj, jj, jj, jj, jj, jj, jj, jj, jj, jj, jj, jj, jj, jj, jj, jj, jj, jj, jj, jj, jj, jj] [] (0 : Nat))) (cellarerref05_piece_res r) (cellarerref05_piece_out r)) h (fun t_208 h => ?_) (fun s_229 x220 h220 K220 => ?_)
    ·
      refine W.needT 0 100000 h (by kernel_rfl) (fun h => ?_)
      refine W.at 0 100000 [] [0, 5, 6, 7] (c' := (fun (s_230 : List UInt8) => (Cfg.mk Mode.run (headTodo Go.Proofs.Tryd.prog 59 2) (St.mk [AV.str s_191, jj, jj, jj, jj, AV.int IntKind.i64 t_199, AV.int IntKind.i64 t_208, AV.str s_230, jj, jj, jj, jj, jj, jj, jj, jj, jj, jj, jj, jj, jj, jj, jj, jj, jj, jj, jj, jj, jj, jj, jj, jj, jj, jj, jj, jj, jj, jj, jj, jj, jj, jj, jj, jj, jj, jj, jj, jj, jj, jj, jj, jj, jj, jj, jj] [] (0 : Nat)))) (List.drop (Int.toNat t_199) (List.take (Int.toNat t_208) s_191))) (by kernel_rfl) ?_
      refine W.loop (fun (s_230 : List UInt8) => (Cfg.mk Mode.run (headTodo Go.Proofs.Tryd.prog 59 2) (St.mk [AV.str s_191, jj, jj, jj, jj, AV.int IntKind.i64 t_199, AV.int IntKind.i64 t_208, AV.str s_230, jj, jj, jj, jj, jj, jj, jj, jj, jj, jj, jj, jj, jj, jj, jj, jj, jj, jj, jj, jj, jj, jj, jj, jj, jj, jj, jj, jj, jj, jj, jj, jj, jj, jj, jj, jj, jj, jj, jj, jj, jj, jj, jj, jj, jj, jj, jj] [] (0 : Nat)))) (fun t_217 => Walk Go.Proofs.Tryd.prog 59 (Cfg.mk Mode.run ((headTodo Go.Proofs.Tryd.prog 59 2).drop 3) (St.mk [AV.str s_191, jj, jj, jj, jj, AV.int IntKind.i64 t_199, AV.int IntKind.i64 t_208, AV.str t_217, jj, jj, jj, jj, jj, jj, jj, jj, jj, jj, jj, jj, jj, jj, jj, jj, jj, jj, jj, jj, jj, jj, jj, jj, jj, jj, jj, jj, jj, jj, jj, jj, jj, jj, jj, jj, jj, jj, jj, jj, jj, jj, jj, jj, jj, jj, jj] [] (0 : Nat))) (cellarerref05_piece_res r) (cellarerref05_piece_out r)) h (fun t_217 h => ?_) (fun s_230 x219 h219 K219 => ?_)
      ·
        refine W.needT 0 100000 h (by kernel_rfl) (fun h => ?_)
        refine W.needT 0 100000 h (by kernel_rfl) (fun h => ?_)
        exact W.retT 0 100000 h (by kernel_rfl)
      · unfold cellarerref05_piece_b2 at h219
        refine W.join (fun t => (Sum.elim (fun t_213 => Walk Go.Proofs.Tryd.prog 59 (Cfg.mk Mode.run (seqTodo Go.Proofs.Tryd.prog 59 11) (St.mk [AV.str s_191, jj, jj, jj, jj, AV.int IntKind.i64 t_199, AV.int IntKind.i64 t_208, AV.str s_230, jj, jj, jj, jj, jj, jj, jj, jj, jj, jj, jj, jj, jj, jj, jj, jj, jj, jj, jj, jj, jj, jj, jj, jj, jj, jj, jj, jj, jj, jj, jj, jj, jj, jj, jj, jj, jj, jj, jj, jj, jj, jj, jj, jj, jj, jj, jj] [] (0 : Nat))) (cellarerref05_piece_res r) (cellarerref05_piece_out r)) (fun t_214 => Walk Go.Proofs.Tryd.prog 59 (Cfg.mk Mode.run ((seqTodo Go.Proofs.Tryd.prog 59 11).drop 3) (St.mk [AV.str s_191, jj, jj, jj, jj, AV.int IntKind.i64 t_199, AV.int IntKind.i64 t_208, AV.str s_230, jj, jj, jj, jj, jj, jj, jj, jj, jj, jj, jj, jj, jj, jj, jj, jj, jj, jj, jj, jj, jj, jj, jj, jj, jj, jj, jj, jj, jj, jj, jj, jj, jj, jj, jj, jj, jj, jj, jj, jj, jj, jj, jj, jj, jj, jj, jj] [] (0 : Nat))) (cellarerref05_piece_res r) (cellarerref05_piece_out r))) t) h219 (fun t h219 => ?_) (fun t216 h216 K216 => ?_)
        ·
          rcases t with t_213 | t_214
          · replace h219 := W.inl (h219)
            refine W.elimL (?_)
            refine W.needT 2 100000 h219 (by kernel_rfl) (fun h219 => ?_)
            cases h219; exact W.at 2 100000 [] [0, 5, 6, 7] (by kernel_rfl) K219
          · replace h219 := W.inr (h219)
            refine W.elimR (?_)
            cases h219; exact W.at 2 100000 [] [0, 5, 6, 7] (by kernel_rfl) K219
        · refine W.next 2 1 (by kernel_rfl) ?_
          refine W.cond 4 100000 h216 (by kernel_rfl) (fun h216 => ?_) (fun h216 => ?_)
          ·
            refine W.yes 4 100000 (by kernel_rfl) ?_
            refine W.needT 4 100000 h216 (by kernel_rfl) (fun h216 => ?_)
            refine W.yes 4 100000 (by kernel_rfl) ?_
            refine W.yes 4 100000 (by kernel_rfl) ?_
            refine W.cond 4 100000 h216 (by kernel_rfl) (fun h216 => ?_) (fun h216 => ?_)
            ·
              cases h216; exact W.at 4 100000 [] [0, 5, 6, 7] (by kernel_rfl) K216
            ·
              cases h216; exact W.at 4 100000 [] [0, 5, 6, 7] (by kernel_rfl) K216
          ·
            refine W.no 4 100000 (by kernel_rfl) ?_
            refine W.no 4 100000 (by kernel_rfl) ?_
            refine W.no 4 100000 (by kernel_rfl) ?_
            refine W.no 4 100000 (by kernel_rfl) ?_
            cases h216; exact W.at 4 100000 [] [0, 5, 6, 7] (by kernel_rfl) K216
    · unfold cellarerref05_piece_b1 at h220
      refine W.join (fun t => (Sum.elim (fun t_204 => Walk Go.Proofs.Tryd.prog 59 (Cfg.mk Mode.run (seqTodo Go.Proofs.Tryd.prog 59 7) (St.mk [AV.str s_191, jj, jj, jj, jj, AV.int IntKind.i64 t_199, AV.int IntKind.i64 s_229, jj, jj, jj, jj, jj, jj, jj, jj, jj, jj, jj, jj, jj, jj, jj, jj, jj, jj, jj, jj, jj, jj, jj, jj, jj, jj, jj, jj, jj, jj, jj, jj, jj, jj, jj, jj, jj, jj, jj, jj, jj, jj, jj, jj, jj, jj, jj, jj] [] (0 : Nat))) (cellarerref05_piece_res r) (cellarerref05_piece_out r)) (fun t_205 => Walk Go.Proofs.Tryd.prog 59 (Cfg.mk Mode.run ((seqTodo Go.Proofs.Tryd.prog 59 7).drop 3) (St.mk [AV.str s_191, jj, jj, jj, jj, AV.int IntKind.i64 t_199, AV.int IntKind.i64 s_229, jj, jj, jj, jj, jj, jj, jj, jj, jj, jj, jj, jj, jj, jj, jj, jj, jj, jj, jj, jj, jj, jj, jj, jj, jj, jj, jj, jj, jj, jj, jj, jj, jj, jj, jj, jj, jj, jj, jj, jj, jj, jj, jj, jj, jj, jj, jj, jj] [] (0 : Nat))) (cellarerref05_piece_res r) (cellarerref05_piece_out r))) t) h220 (fun t h220 => ?_) (fun t207 h207 K207 => ?_)
      ·
        rcases t with t_204 | t_205
        · replace h220 := W.inl (h220)
          refine W.elimL (?_)
          cases h220; exact W.at 2 100000 [] [0, 5, 6] (by kernel_rfl) K220
        · replace h220 := W.inr (h220)
          refine W.elimR (?_)
          cases h220; exact W.at 2 100000 [] [0, 5, 6] (by kernel_rfl) K220
      · refine W.next 2 1 (by kernel_rfl) ?_
        refine W.cond 4 100000 h207 (by kernel_rfl) (fun h207 => ?_) (fun h207 => ?_)
        ·
          refine W.yes 4 100000 (by kernel_rfl) ?_
          refine W.yes 4 100000 (by kernel_rfl) ?_
          refine W.needT 4 100000 h207 (by kernel_rfl) (fun h207 => ?_)
          refine W.yes 4 100000 (by kernel_rfl) ?_
          refine W.bind h207 fun a_203 ha_203 h207 => ?_
          refine W.call 4 100000 (by kernel_rfl) (cellarerref05_Digit_con ha_203) (by kernel_rfl) ?_
          refine W.yes 4 100000 (by kernel_rfl) ?_
          refine W.cond 4 100000 h207 (by kernel_rfl) (fun h207 => ?_) (fun h207 => ?_)
          ·
            cases h207; exact W.at 4 100000 [] [0, 5, 6] (by kernel_rfl) K207
          ·
            cases h207; exact W.at 4 100000 [] [0, 5, 6] (by kernel_rfl) K207
        ·
          refine W.no 4 100000 (by kernel_rfl) ?_
          refine W.no 4 100000 (by kernel_rfl) ?_
          refine W.no 4 100000 (by kernel_rfl) ?_
          refine W.no 4 100000 (by kernel_rfl) ?_
          refine W.no 4 100000 (by kernel_rfl) ?_
          cases h207; exact W.at 4 100000 [] [0, 5, 6] (by kernel_rfl) K207
  · unfold cellarerref05_piece_b0 at h221
    refine W.join (fun t => (Sum.elim (fun t_195 => Walk Go.Proofs.Tryd.prog 59 (Cfg.mk Mode.run (seqTodo Go.Proofs.Tryd.prog 59 3) (St.mk [AV.str s_191, jj, jj, jj, jj, AV.int IntKind.i64 s_228, jj, jj, jj, jj, jj, jj, jj, jj, jj, jj, jj, jj, jj, jj, jj, jj, jj, jj, jj, jj, jj, jj, jj, jj, jj, jj, jj, jj, jj, jj, jj, jj, jj, jj, jj, jj, jj, jj, jj, jj, jj, jj, jj, jj, jj, jj, jj, jj, jj] [] (0 : Nat))) (cellarerref05_piece_res r) (cellarerref05_piece_out r)) (fun t_196 => Walk Go.Proofs.Tryd.prog 59 (Cfg.mk Mode.run ((seqTodo Go.Proofs.Tryd.prog 59 3).drop 3) (St.mk [AV.str s_191, jj, jj, jj, jj, AV.int IntKind.i64 s_228, jj, jj, jj, jj, jj, jj, jj, jj, jj, jj, jj, jj, jj, jj, jj, jj, jj, jj, jj, jj, jj, jj, jj, jj, jj, jj, jj, jj, jj, jj, jj, jj, jj, jj, jj, jj, jj, jj, jj, jj, jj, jj, jj, jj, jj, jj, jj, jj, jj] [] (0 : Nat))) (cellarerref05_piece_res r) (cellarerref05_piece_out r))) t) h221 (fun t h221 => ?_) (fun t198 h198 K198 => ?_)
    ·
      rcases t with t_195 | t_196
      · replace h221 := W.inl (h221)
        refine W.elimL (?_)
        cases h221; exact W.at 2 100000 [] [0, 5] (by kernel_rfl) K221
      · replace h221 := W.inr (h221)
        refine W.elimR (?_)
        cases h221; exact W.at 2 100000 [] [0, 5] (by kernel_rfl) K221
    · refine W.next 2 1 (by kernel_rfl) ?_
      refine W.cond 4 100000 h198 (by kernel_rfl) (fun h198 => ?_) (fun h198 => ?_)
      ·
        refine W.yes 4 100000 (by kernel_rfl) ?_
        refine W.yes 4 100000 (by kernel_rfl) ?_
        refine W.needT 4 100000 h198 (by kernel_rfl) (fun h198 => ?_)
        refine W.yes 4 100000 (by kernel_rfl) ?_
        refine W.bind h198 fun a_194 ha_194 h198 => ?_
        refine W.call 4 100000 (by kernel_rfl) (cellarerref05_Digit_con ha_194) (by kernel_rfl) ?_
        refine W.yes 4 100000 (by kernel_rfl) ?_
        refine W.yes 4 100000 (by kernel_rfl) ?_
        refine W.cond 4 100000 h198 (by kernel_rfl) (fun h198 => ?_) (fun h198 => ?_)
        ·
          cases h198; exact W.at 4 100000 [] [0, 5] (by kernel_rfl) K198
        ·
          cases h198; exact W.at 4 100000 [] [0, 5] (by kernel_rfl) K198
      ·
        refine W.no 4 100000 (by kernel_rfl) ?_
        refine W.no 4 100000 (by kernel_rfl) ?_
        refine W.no 4 100000 (by kernel_rfl) ?_
        refine W.no 4 100000 (by kernel_rfl) ?_
        refine W.no 4 100000 (by kernel_rfl) ?_
        refine W.no 4 100000 (by kernel_rfl) ?_
        cases h198; exact W.at 4 100000 [] [0, 5] (by kernel_rfl) K198

theorem cellarerref05_numbers_con {a_233 : List UInt8} {b_234 : List UInt8} {r : Int} (h : cellarerref05_numbers a_233 b_234 = some r) : Con Go.Proofs.Tryd.prog 61 [AV.str a_233, AV.str b_234] [] (cellarerref05_numbers_res r) (cellarerref05_numbers_out r) := by
  refine W.con (by kernel_rfl) ?_
  unfold cellarerref05_numbers at h
  refine W.cond 0 100000 h (by kernel_rfl) (fun h => ?_) (fun h => ?_)
  ·
    refine W.yes 0 100000 (by kernel_rfl) ?_
    refine W.yes 0 100000 (by kernel_rfl) ?_
    refine W.yes 0 100000 (by kernel_rfl) ?_
    refine W.yes 0 100000 (by kernel_rfl) ?_
    refine W.yes 0 100000 (by kernel_rfl) ?_
    refine W.yes 0 100000 (by kernel_rfl) ?_
    refine W.yes 0 100000 (by kernel_rfl) ?_
    refine W.yes 0 100000 (by kernel_rfl) ?_
    exact W.retT 0 100000 h (by kernel_rfl)
  ·
    refine W.no 0 100000 (by kernel_rfl) ?_
    refine W.no 0 100000 (by kernel_rfl) ?_
    refine W.no 0 100000 (by kernel_rfl) ?_
    refine W.no 0 100000 (by kernel_rfl) ?_
    refine W.no 0 100000 (by kernel_rfl) ?_
    refine W.cond 0 100000 h (by kernel_rfl) (fun h => ?_) (fun h => ?_)
    ·
      refine W.yes 0 100000 (by kernel_rfl) ?_
      refine W.yes 0 100000 (by kernel_rfl) ?_
      refine W.no 0 100000 (by kernel_rfl) ?_
      refine W.yes 0 100000 (by kernel_rfl) ?_
      refine W.no 0 100000 (by kernel_rfl) ?_
      refine W.cond 0 100000 h (by kernel_rfl) (fun h => ?_) (fun h => ?_)
      ·
        exact W.retT 0 100000 h (by kernel_rfl)
      ·
        refine W.cond 0 100000 h (by kernel_rfl) (fun h => ?_) (fun h => ?_)
        ·
          exact W.retT 0 100000 h (by kernel_rfl)
        ·
          exact W.retT 0 100000 h (by kernel_rfl)
    ·
      refine W.no 0 100000 (by kernel_rfl) ?_
      refine W.no 0 100000 (by kernel_rfl) ?_
      refine W.no 0 100000 (by kernel_rfl) ?_
      refine W.no 0 100000 (by kernel_rfl) ?_
      refine W.no 0 100000 (by kernel_rfl) ?_
      refine W.no 0 100000 (by kernel_rfl) ?_
      refine W.cond 0 100000 h (by kernel_rfl) (fun h => ?_) (fun h => ?_)
      ·
        exact W.retT 0 100000 h (by kernel_rfl)
      ·
        exact W.retT 0 100000 h (by kernel_rfl)

theorem cellarerref05_weight_con {c_238 : Int} {r : Int} (h : cellarerref05_weight c_238 = some r) : Con Go.Proofs.Tryd.prog 68 [AV.int IntKind.u8 c_238] [] (cellarerref05_weight_res r) (cellarerref05_weight_out r) := by
  refine W.con (by kernel_rfl) ?_
  unfold cellarerref05_weight at h
  refine W.cond 0 100000 h (by kernel_rfl) (fun h => ?_) (fun h => ?_)
  ·
    exact W.retT 0 100000 h (by kernel_rfl)
  ·
    refine W.bind h fun a_239 ha_239 h => ?_
    refine W.call 0 100000 (by kernel_rfl) (cellarerref05_Letter_con ha_239) (by kernel_rfl) ?_
    refine W.cond 0 100000 h (by kernel_rfl) (fun h => ?_) (fun h => ?_)
    ·
      exact W.retT 0 100000 h (by kernel_rfl)
    ·
      exact W.retT 0 100000 h (by kernel_rfl)

theorem cellarerref05_words_con {a_244 : List UInt8} {b_245 : List UInt8} {r : Int} (h : cellarerref05_words a_244 b_245 = some r) : Con Go.Proofs.Tryd.prog 60 [AV.str a_244, AV.str b_245] [] (cellarerref05_words_res r) (cellarerref05_words_out r) := by
  refine W.con (by kernel_rfl) ?_
  unfold cellarerref05_words at h
  refine W.at 0 100000 [] [0, 1, 5] (c' := (fun (s_267 : Int) => (Cfg.mk Mode.run (headTodo Go.Proofs.Tryd.prog 60 0) (St.mk [AV.str a_244, AV.str b_245, jj, jj, jj, AV.int IntKind.i64 s_267, jj, jj, jj, jj, jj, jj, jj, jj, jj, jj, jj, jj, jj, jj, jj, jj, jj, jj, jj, jj, jj, jj, jj, jj, jj, jj, jj, jj, jj, jj, jj, jj, jj, jj, jj, jj] [] (0 : Nat)))) ((0 : Int))) (by kernel_rfl) ?_
  refine W.loop (fun (s_267 : Int) => (Cfg.mk Mode.run (headTodo Go.Proofs.Tryd.prog 60 0) (St.mk [AV.str a_244, AV.str b_245, jj, jj, jj, AV.int IntKind.i64 s_267, jj, jj, jj, jj, jj, jj, jj, jj, jj, jj, jj, jj, jj, jj, jj, jj, jj, jj, jj, jj, jj, jj, jj, jj, jj, jj, jj, jj, jj, jj, jj, jj, jj, jj, jj, jj] [] (0 : Nat)))) (fun t => (Sum.elim (fun t_261 => r = (t_261)) (fun t_262 => Walk Go.Proofs.Tryd.prog 60 (Cfg.mk Mode.run ((headTodo Go.Proofs.Tryd.prog 60 0).drop 3) (St.mk [jj, jj, jj, jj, jj, jj, jj, jj, jj, jj, jj, jj, jj, jj, jj, jj, jj, jj, jj, jj, jj, jj, jj, jj, jj, jj, jj, jj, jj, jj, jj, jj, jj, jj, jj, jj, jj, jj, jj, jj, jj, jj] [] (0 : Nat))) (cellarerref05_words_res r) (cellarerref05_words_out r))) t) h (fun t h => ?_) (fun s_267 x264 h264 K264 => ?_)
  ·
    rcases t with t_261 | t_262
    · replace h := W.inl (h)
      refine W.elimL (?_)
      exact (Option.some.inj h).symm
    · replace h := W.inr (h)
      refine W.elimR (?_)
      exact W.retT 0 100000 h (by kernel_rfl)
  · unfold cellarerref05_words_b0 at h264
    refine W.join (fun t => (Sum.elim (fun t_249 => Walk Go.Proofs.Tryd.prog 60 (Cfg.mk Mode.run (seqTodo Go.Proofs.Tryd.prog 60 3) (St.mk [AV.str a_244, AV.str b_245, jj, jj, jj, AV.int IntKind.i64 s_267, jj, jj, jj, jj, jj, jj, jj, jj, jj, jj, jj, jj, jj, jj, jj, jj, jj, jj, jj, jj, jj, jj, jj, jj, jj, jj, jj, jj, jj, jj, jj, jj, jj, jj, jj, jj] [] (0 : Nat))) (cellarerref05_words_res r) (cellarerref05_words_out r)) (fun t_258 => Walk Go.Proofs.Tryd.prog 60 (Cfg.mk Mode.run ((seqTodo Go.Proofs.Tryd.prog 60 3).drop 3) (St.mk [jj, jj, jj, jj, jj, jj, jj, jj, jj, jj, jj, jj, jj, jj, jj, jj, jj, jj, jj, jj, jj, jj, jj, jj, jj, jj, jj, jj, jj, jj, jj, jj, jj, jj, jj, jj, jj, jj, jj, jj, jj, jj] [] (0 : Nat))) (cellarerref05_words_res r) (cellarerref05_words_out r))) t) h264 (fun t h264 => ?_) (fun t260 h260 K260 => ?_)
    ·
      rcases t with t_249 | t_258
      · replace h264 := W.inl (h264)
        refine W.elimL (?_)
        refine W.join (fun t_252 => Walk Go.Proofs.Tryd.prog 60 (Cfg.mk Mode.run (seqTodo Go.Proofs.Tryd.prog 60 8) (St.mk [AV.str a_244, AV.str b_245, jj, jj, jj, AV.int IntKind.i64 s_267, AV.int IntKind.i64 t_252, AV.int IntKind.i64 (0 : Int), jj, jj, jj, jj, jj, jj, jj, jj, jj, jj, jj, jj, jj, jj, jj, jj, jj, jj, jj, jj, jj, jj, jj, jj, jj, jj, jj, jj, jj, jj, jj, jj, jj, jj] [] (0 : Nat))) (cellarerref05_words_res r) (cellarerref05_words_out r)) h264 (fun t_252 h264 => ?_) (fun t258 h258 K258 => ?_)
        ·
          refine W.join (fun t_255 => Walk Go.Proofs.Tryd.prog 60 (Cfg.mk Mode.run (seqTodo Go.Proofs.Tryd.prog 60 10) (St.mk [AV.str a_244, AV.str b_245, jj, jj, jj, AV.int IntKind.i64 s_267, AV.int IntKind.i64 t_252, AV.int IntKind.i64 t_255, jj, jj, jj, jj, jj, jj, jj, jj, jj, jj, jj, jj, jj, jj, jj, jj, jj, jj, jj, jj, jj, jj, jj, jj, jj, jj, jj, jj, jj, jj, jj, jj, jj, jj] [] (0 : Nat))) (cellarerref05_words_res r) (cellarerref05_words_out r)) h264 (fun t_255 h264 => ?_) (fun t257 h257 K257 => ?_)
          ·
            refine W.cond 2 100000 h264 (by kernel_rfl) (fun h264 => ?_) (fun h264 => ?_)
            ·
              cases h264; exact W.retK 2 100000 K264 (by kernel_rfl)
            ·
              refine W.cond 2 100000 h264 (by kernel_rfl) (fun h264 => ?_) (fun h264 => ?_)
              ·
                cases h264; exact W.retK 2 100000 K264 (by kernel_rfl)
              ·
                cases h264; exact W.at 2 100000 [] [0, 1, 5] (by kernel_rfl) K264
          · refine W.next 2 1 (by kernel_rfl) ?_
            refine W.cond 6 100000 h257 (by kernel_rfl) (fun h257 => ?_) (fun h257 => ?_)
            ·
              refine W.needT 6 100000 h257 (by kernel_rfl) (fun h257 => ?_)
              refine W.bind h257 fun a_253 ha_253 h257 => ?_
              refine W.call 6 100000 (by kernel_rfl) (cellarerref05_weight_con ha_253) (by kernel_rfl) ?_
              cases h257; exact W.at 6 100000 [] [0, 1, 5, 6, 7] (by kernel_rfl) K257
            ·
              cases h257; exact W.at 6 100000 [] [0, 1, 5, 6, 7] (by kernel_rfl) K257
        · refine W.next 2 11 (by kernel_rfl) ?_
          refine W.cond 6 100000 h258 (by kernel_rfl) (fun h258 => ?_) (fun h258 => ?_)
          ·
            refine W.needT 6 100000 h258 (by kernel_rfl) (fun h258 => ?_)
            refine W.bind h258 fun a_250 ha_250 h258 => ?_
            refine W.call 6 100000 (by kernel_rfl) (cellarerref05_weight_con ha_250) (by kernel_rfl) ?_
            cases h258; exact W.at 6 100000 [] [0, 1, 5, 6, 7] (by kernel_rfl) K258
          ·
            cases h258; exact W.at 6 100000 [] [0, 1, 5, 6, 7] (by kernel_rfl) K258
      · replace h264 := W.inr (h264)
        refine W.elimR (?_)
        cases h264; exact W.at 2 100000 [] [] (by kernel_rfl) K264
    · refine W.next 2 1 (by kernel_rfl) ?_
      refine W.cond 4 100000 h260 (by kernel_rfl) (fun h260 => ?_) (fun h260 => ?_)
      ·
        refine W.yes 4 100000 (by kernel_rfl) ?_
        refine W.yes 4 100000 (by kernel_rfl) ?_
        refine W.yes 4 100000 (by kernel_rfl) ?_
        refine W.yes 4 100000 (by kernel_rfl) ?_
        refine W.yes 4 100000 (by kernel_rfl) ?_
        cases h260; exact W.at 4 100000 [] [0, 1, 5] (by kernel_rfl) K260
      ·
        refine W.no 4 100000 (by kernel_rfl) ?_
        refine W.no 4 100000 (by kernel_rfl) ?_
        refine W.no 4 100000 (by kernel_rfl) ?_
        refine W.no 4 100000 (by kernel_rfl) ?_
        refine W.cond 4 100000 h260 (by kernel_rfl) (fun h260 => ?_) (fun h260 => ?_)
        ·
          cases h260; exact W.at 4 100000 [] [0, 1, 5] (by kernel_rfl) K260
        ·
          cases h260; exact W.at 4 100000 [] [] (by kernel_rfl) K260

theorem cmp_isNaN_int__con {x_289 : Int} {r : Bool} (h : cmp_isNaN_int_ x_289 = some r) : Con Go.Proofs.Tryd.prog 63 [AV.int IntKind.i64 x_289] [] (cmp_isNaN_int__res r) (cmp_isNaN_int__out r) := by
  refine W.con (by kernel_rfl) ?_
  unfold cmp_isNaN_int_ at h
  exact W.retT 0 100000 h (by kernel_rfl)

theorem cmp_Compare_int__con {x_287 : Int} {y_288 : Int} {r : Int} (h : cmp_Compare_int_ x_287 y_288 = some r) : Con Go.Proofs.Tryd.prog 56 [AV.int IntKind.i64 x_287, AV.int IntKind.i64 y_288] [] (cmp_Compare_int__res r) (cmp_Compare_int__out r) := by
  refine W.con (by kernel_rfl) ?_
  unfold cmp_Compare_int_ at h
  refine W.bind h fun a_292 ha_292 h => ?_
  refine W.call 0 100000 (by kernel_rfl) (cmp_isNaN_int__con ha_292) (by kernel_rfl) ?_
  refine W.bind h fun a_293 ha_293 h => ?_
  refine W.call 0 100000 (by kernel_rfl) (cmp_isNaN_int__con ha_293) (by kernel_rfl) ?_
  refine W.cond 0 100000 h (by kernel_rfl) (fun h => ?_) (fun h => ?_)
  ·
    refine W.cond 0 100000 h (by kernel_rfl) (fun h => ?_) (fun h => ?_)
    ·
      exact W.retT 0 100000 h (by kernel_rfl)
    ·
      exact W.retT 0 100000 h (by kernel_rfl)
  ·
    refine W.cond 0 100000 h (by kernel_rfl) (fun h => ?_) (fun h => ?_)
    ·
      exact W.retT 0 100000 h (by kernel_rfl)
    ·
      refine W.cond 0 100000 h (by kernel_rfl) (fun h => ?_) (fun h => ?_)
      ·
        exact W.retT 0 100000 h (by kernel_rfl)
      ·
        refine W.cond 0 100000 h (by kernel_rfl) (fun h => ?_) (fun h => ?_)
        ·
          exact W.retT 0 100000 h (by kernel_rfl)
        ·
          exact W.retT 0 100000 h (by kernel_rfl)

theorem cmp_isNaN_string__con {x_309 : List UInt8} {r : Bool} (h : cmp_isNaN_string_ x_309 = some r) : Con Go.Proofs.Tryd.prog 75 [AV.str x_309] [] (cmp_isNaN_string__res r) (cmp_isNaN_string__out r) := by
  refine W.con (by kernel_rfl) ?_
  unfold cmp_isNaN_string_ at h
  exact W.retT 0 100000 h (by kernel_rfl)

theorem cmp_Compare_string__con {x_307 : List UInt8} {y_308 : List UInt8} {r : Int} (h : cmp_Compare_string_ x_307 y_308 = some r) : Con Go.Proofs.Tryd.prog 67 [AV.str x_307, AV.str y_308] [] (cmp_Compare_string__res r) (cmp_Compare_string__out r) := by
  refine W.con (by kernel_rfl) ?_
  unfold cmp_Compare_string_ at h
  refine W.bind h fun a_312 ha_312 h => ?_
  refine W.call 0 100000 (by kernel_rfl) (cmp_isNaN_string__con ha_312) (by kernel_rfl) ?_
  refine W.bind h fun a_313 ha_313 h => ?_
  refine W.call 0 100000 (by kernel_rfl) (cmp_isNaN_string__con ha_313) (by kernel_rfl) ?_
  refine W.cond 0 100000 h (by kernel_rfl) (fun h => ?_) (fun h => ?_)
  ·
    refine W.cond 0 100000 h (by kernel_rfl) (fun h => ?_) (fun h => ?_)
    ·
      exact W.retT 0 100000 h (by kernel_rfl)
    ·
      exact W.retT 0 100000 h (by kernel_rfl)
  ·
    refine W.cond 0 100000 h (by kernel_rfl) (fun h => ?_) (fun h => ?_)
    ·
      exact W.retT 0 100000 h (by kernel_rfl)
    ·
      refine W.cond 0 100000 h (by kernel_rfl) (fun h => ?_) (fun h => ?_)
      ·
        exact W.retT 0 100000 h (by kernel_rfl)
      ·
        refine W.cond 0 100000 h (by kernel_rfl) (fun h => ?_) (fun h => ?_)
        ·
          exact W.retT 0 100000 h (by kernel_rfl)
        ·
          exact W.retT 0 100000 h (by kernel_rfl)

theorem version_Order_con {a_270 : List UInt8} {b_271 : List UInt8} {r : Int} (h : version_Order a_270 b_271 = some r) : Con Go.Proofs.Tryd.prog 57 [AV.str a_270, AV.str b_271] [] (version_Order_res r) (version_Order_out r) := by
  refine W.con (by kernel_rfl) ?_
  unfold version_Order at h
  refine W.at 0 100000 [] [0, 1, 5, 6] (c' := (fun (s_328 : Int × Int) => (Cfg.mk Mode.run (headTodo Go.Proofs.Tryd.prog 57 0) (St.mk [AV.str a_270, AV.str b_271, jj, jj, jj, AV.int IntKind.i64 (Prod.fst s_328), AV.int IntKind.i64 (Prod.snd s_328), jj, jj, jj, jj, jj, jj, jj, jj, jj, jj, jj, jj, jj, jj, jj, jj, jj, jj, jj, jj, jj, jj, jj, jj, jj, jj, jj, jj, jj, jj, jj, jj, jj, jj, jj, jj, jj, jj, jj, jj, jj, jj, jj, jj, jj, jj, jj, jj, jj, jj, jj, jj, jj, jj, jj, jj, jj, jj, jj, jj, jj, jj, jj, jj, jj, jj, jj, jj, jj, jj, jj, jj, jj, jj, jj, jj, jj, jj, jj, jj, jj, jj] [] (0 : Nat)))) ((0 : Int), (0 : Int))) (by kernel_rfl) ?_
  refine W.loop (fun (s_328 : Int × Int) => (Cfg.mk Mode.run (headTodo Go.Proofs.Tryd.prog 57 0) (St.mk [AV.str a_270, AV.str b_271, jj, jj, jj, AV.int IntKind.i64 (Prod.fst s_328), AV.int IntKind.i64 (Prod.snd s_328), jj, jj, jj, jj, jj, jj, jj, jj, jj, jj, jj, jj, jj, jj, jj, jj, jj, jj, jj, jj, jj, jj, jj, jj, jj, jj, jj, jj, jj, jj, jj, jj, jj, jj, jj, jj, jj, jj, jj, jj, jj, jj, jj, jj, jj, jj, jj, jj, jj, jj, jj, jj, jj, jj, jj, jj, jj, jj, jj, jj, jj, jj, jj, jj, jj, jj, jj, jj, jj, jj, jj, jj, jj, jj, jj, jj, jj, jj, jj, jj, jj, jj] [] (0 : Nat)))) (fun t => (Sum.elim (fun t_321 => r = (t_321)) (fun t_322 => Walk Go.Proofs.Tryd.prog 57 (Cfg.mk Mode.run ((headTodo Go.Proofs.Tryd.prog 57 0).drop 3) (St.mk [jj, jj, jj, jj, jj, jj, jj, jj, jj, jj, jj, jj, jj, jj, jj, jj, jj, jj, jj, jj, jj, jj, jj, jj, jj, jj, jj, jj, jj, jj, jj, jj, jj, jj, jj, jj, jj, jj, jj, jj, jj, jj, jj, jj, jj, jj, jj, jj, jj, jj, jj, jj, jj, jj, jj, jj, jj, jj, jj, jj, jj, jj, jj, jj, jj, jj, jj, jj, jj, jj, jj, jj, jj, jj, jj, jj, jj, jj, jj, jj, jj, jj, jj, jj, jj, jj, jj, jj, jj] [] (0 : Nat))) (version_Order_res r) (version_Order_out r))) t) h (fun t h => ?_) (fun s_328 x324 h324 K324 => ?_)
  ·
    rcases t with t_321 | t_322
    · replace h := W.inl (h)
      refine W.elimL (?_)
      exact (Option.some.inj h).symm
    · replace h := W.inr (h)
      refine W.elimR (?_)
      exact W.retT 0 100000 h (by kernel_rfl)
  · unfold version_Order_b1 at h324
    refine W.join (fun t => (Sum.elim (fun t_276 => Walk Go.Proofs.Tryd.prog 57 (Cfg.mk Mode.run (seqTodo Go.Proofs.Tryd.prog 57 4) (St.mk [AV.str a_270, AV.str b_271, jj, jj, jj, AV.int IntKind.i64 (Prod.fst s_328), AV.int IntKind.i64 (Prod.snd s_328), jj, jj, jj, jj, jj, jj, jj, jj, jj, jj, jj, jj, jj, jj, jj, jj, jj, jj, jj, jj, jj, jj, jj, jj, jj, jj, jj, jj, jj, jj, jj, jj, jj, jj, jj, jj, jj, jj, jj, jj, jj, jj, jj, jj, jj, jj, jj, jj, jj, jj, jj, jj, jj, jj, jj, jj, jj, jj, jj, jj, jj, jj, jj, jj, jj, jj, jj, jj, jj, jj, jj, jj, jj, jj, jj, jj, jj, jj, jj, jj, jj, jj] [] (0 : Nat))) (version_Order_res r) (version_Order_out r)) (fun t_318 => Walk Go.Proofs.Tryd.prog 57 (Cfg.mk Mode.run ((seqTodo Go.Proofs.Tryd.prog 57 4).drop 3) (St.mk [jj, jj, jj, jj, jj, jj, jj, jj, jj, jj, jj, jj, jj, jj, jj, jj, jj, jj, jj, jj, jj, jj, jj, jj, jj, jj, jj, jj, jj, jj, jj, jj, jj, jj, jj, jj, jj, jj, jj, jj, jj, jj, jj, jj, jj, jj, jj, jj, jj, jj, jj, jj, jj, jj, jj, jj, jj, jj, jj, jj, jj, jj, jj, jj, jj, jj, jj, jj, jj, jj, jj, jj, jj, jj, jj, jj, jj, jj, jj, jj, jj, jj, jj, jj, jj, jj, jj, jj, jj] [] (0 : Nat))) (version_Order_res r) (version_Order_out r))) t) h324 (fun t h324 => ?_) (fun t320 h320 K320 => ?_)
    ·
      rcases t with t_276 | t_318
      · replace h324 := W.inl (h324)
        refine W.elimL (?_)
        refine W.at 3 100000 [] [0, 1, 5, 6] (c' := (fun (s_329 : Int × Int) => (Cfg.mk Mode.run (headTodo Go.Proofs.Tryd.prog 57 1) (St.mk [AV.str a_270, AV.str b_271, jj, jj, jj, AV.int IntKind.i64 (Prod.fst s_329), AV.int IntKind.i64 (Prod.snd s_329), jj, jj, jj, jj, jj, jj, jj, jj, jj, jj, jj, jj, jj, jj, jj, jj, jj, jj, jj, jj, jj, jj, jj, jj, jj, jj, jj, jj, jj, jj, jj, jj, jj, jj, jj, jj, jj, jj, jj, jj, jj, jj, jj, jj, jj, jj, jj, jj, jj, jj, jj, jj, jj, jj, jj, jj, jj, jj, jj, jj, jj, jj, jj, jj, jj, jj, jj, jj, jj, jj, jj, jj, jj, jj, jj, jj, jj, jj, jj, jj, jj, jj] [] (0 : Nat)))) (Prod.fst s_328, Prod.snd s_328)) (by kernel_rfl) ?_
        refine W.loop (fun (s_329 : Int × Int) => (Cfg.mk Mode.run (headTodo Go.Proofs.Tryd.prog 57 1) (St.mk [AV.str a_270, AV.str b_271, jj, jj, jj, AV.int IntKind.i64 (Prod.fst s_329), AV.int IntKind.i64 (Prod.snd s_329), jj, jj, jj, jj, jj, jj, jj, jj, jj, jj, jj, jj, jj, jj, jj, jj, jj, jj, jj, jj, jj, jj, jj, jj, jj, jj, jj, jj, jj, jj, jj, jj, jj, jj, jj, jj, jj, jj, jj, jj, jj, jj, jj, jj, jj, jj, jj, jj, jj, jj, jj, jj, jj, jj, jj, jj, jj, jj, jj, jj, jj, jj, jj, jj, jj, jj, jj, jj, jj, jj, jj, jj, jj, jj, jj, jj, jj, jj, jj, jj, jj, jj] [] (0 : Nat)))) (fun t => (Sum.elim (fun t_300 => r = (t_300)) (fun t_303 => Walk Go.Proofs.Tryd.prog 57 (Cfg.mk Mode.run ((headTodo Go.Proofs.Tryd.prog 57 1).drop 3) (St.mk [AV.str a_270, AV.str b_271, jj, jj, jj, AV.int IntKind.i64 (Prod.fst t_303), AV.int IntKind.i64 (Prod.snd t_303), jj, jj, jj, jj, jj, jj, jj, jj, jj, jj, jj, jj, jj, jj, jj, jj, jj, jj, jj, jj, jj, jj, jj, jj, jj, jj, jj, jj, jj, jj, jj, jj, jj, jj, jj, jj, jj, jj, jj, jj, jj, jj, jj, jj, jj, jj, jj, jj, jj, jj, jj, jj, jj, jj, jj, jj, jj, jj, jj, jj, jj, jj, jj, jj, jj, jj, jj, jj, jj, jj, jj, jj, jj, jj, jj, jj, jj, jj, jj, jj, jj, jj] [] (0 : Nat))) (version_Order_res r) (version_Order_out r))) t) h324 (fun t h324 => ?_) (fun s_329 x318 h318 K318 => ?_)
        ·
          rcases t with t_300 | t_303
          · replace h324 := W.inl (h324)
            refine W.elimL (?_)
            cases h324; exact K324
          · replace h324 := W.inr (h324)
            refine W.elimR (?_)
            refine W.bind h324 fun a_304 ha_304 h324 => ?_
            refine W.call 3 100000 (by kernel_rfl) (version_number_con ha_304) (by kernel_rfl) ?_
            refine W.bind h324 fun a_305 ha_305 h324 => ?_
            refine W.call 3 100000 (by kernel_rfl) (version_number_con ha_305) (by kernel_rfl) ?_
            refine W.cond 3 100000 h324 (by kernel_rfl) (fun h324 => ?_) (fun h324 => ?_)
            ·
              cases h324; exact W.at 3 100000 [] [0, 1, 5, 6] (by kernel_rfl) K324
            ·
              refine W.bind h324 fun a_306 ha_306 h324 => ?_
              refine W.call 3 100000 (by kernel_rfl) (cmp_Compare_int__con ha_306) (by kernel_rfl) ?_
              refine W.cond 3 100000 h324 (by kernel_rfl) (fun h324 => ?_) (fun h324 => ?_)
              ·
                cases h324; exact W.retK 3 100000 K324 (by kernel_rfl)
              ·
                refine W.bind h324 fun a_316 ha_316 h324 => ?_
                refine W.call 3 100000 (by kernel_rfl) (cmp_Compare_string__con ha_316) (by kernel_rfl) ?_
                cases h324; exact W.retK 3 100000 K324 (by kernel_rfl)
        · unfold version_Order_b0 at h318
          refine W.join (fun t => (Sum.elim (fun t_284 => Walk Go.Proofs.Tryd.prog 57 (Cfg.mk Mode.run (seqTodo Go.Proofs.Tryd.prog 57 7) (St.mk [AV.str a_270, AV.str b_271, jj, jj, jj, AV.int IntKind.i64 (Prod.fst s_329), AV.int IntKind.i64 (Prod.snd s_329), jj, jj, jj, jj, jj, jj, jj, jj, jj, jj, jj, jj, jj, jj, jj, jj, jj, jj, jj, jj, jj, jj, jj, jj, jj, jj, jj, jj, jj, jj, jj, jj, jj, jj, jj, jj, jj, jj, jj, jj, jj, jj, jj, jj, jj, jj, jj, jj, jj, jj, jj, jj, jj, jj, jj, jj, jj, jj, jj, jj, jj, jj, jj, jj, jj, jj, jj, jj, jj, jj, jj, jj, jj, jj, jj, jj, jj, jj, jj, jj, jj, jj] [] (0 : Nat))) (version_Order_res r) (version_Order_out r)) (fun t_297 => Walk Go.Proofs.Tryd.prog 57 (Cfg.mk Mode.run ((seqTodo Go.Proofs.Tryd.prog 57 7).drop 3) (St.mk [AV.str a_270, AV.str b_271, jj, jj, jj, AV.int IntKind.i64 (Prod.fst s_329), AV.int IntKind.i64 (Prod.snd s_329), jj, jj, jj, jj, jj, jj, jj, jj, jj, jj, jj, jj, jj, jj, jj, jj, jj, jj, jj, jj, jj, jj, jj, jj, jj, jj, jj, jj, jj, jj, jj, jj, jj, jj, jj, jj, jj, jj, jj, jj, jj, jj, jj, jj, jj, jj, jj, jj, jj, jj, jj, jj, jj, jj, jj, jj, jj, jj, jj, jj, jj, jj, jj, jj, jj, jj, jj, jj, jj, jj, jj, jj, jj, jj, jj, jj, jj, jj, jj, jj, jj, jj] [] (0 : Nat))) (version_Order_res r) (version_Order_out r))) t) h318 (fun t h318 => ?_) (fun t299 h299 K299 => ?_)
          ·
            rcases t with t_284 | t_297
            · replace h318 := W.inl (h318)
              refine W.elimL (?_)
              refine W.bind h318 fun a_285 ha_285 h318 => ?_
              refine W.call 7 100000 (by kernel_rfl) (version_weight_con ha_285) (by kernel_rfl) ?_
              refine W.bind h318 fun a_286 ha_286 h318 => ?_
              refine W.call 7 100000 (by kernel_rfl) (version_weight_con ha_286) (by kernel_rfl) ?_
              refine W.bind h318 fun a_296 ha_296 h318 => ?_
              refine W.call 7 100000 (by kernel_rfl) (cmp_Compare_int__con ha_296) (by kernel_rfl) ?_
              refine W.cond 7 100000 h318 (by kernel_rfl) (fun h318 => ?_) (fun h318 => ?_)
              ·
                cases h318; exact W.retK 7 100000 K318 (by kernel_rfl)
              ·
                cases h318; exact W.at 7 100000 [] [0, 1, 5, 6] (by kernel_rfl) K318
            · replace h318 := W.inr (h318)
              refine W.elimR (?_)
              cases h318; exact W.at 7 100000 [] [0, 1, 5, 6] (by kernel_rfl) K318
          · refine W.next 7 1 (by kernel_rfl) ?_
            refine W.cond 9 100000 h299 (by kernel_rfl) (fun h299 => ?_) (fun h299 => ?_)
            ·
              refine W.yes 9 100000 (by kernel_rfl) ?_
              refine W.yes 9 100000 (by kernel_rfl) ?_
              refine W.needT 9 100000 h299 (by kernel_rfl) (fun h299 => ?_)
              refine W.yes 9 100000 (by kernel_rfl) ?_
              refine W.bind h299 fun a_281 ha_281 h299 => ?_
              refine W.call 9 100000 (by kernel_rfl) (version_digit_con ha_281) (by kernel_rfl) ?_
              refine W.yes 9 100000 (by kernel_rfl) ?_
              refine W.yes 9 100000 (by kernel_rfl) ?_
              refine W.cond 9 100000 h299 (by kernel_rfl) (fun h299 => ?_) (fun h299 => ?_)
              ·
                refine W.yes 9 100000 (by kernel_rfl) ?_
                refine W.yes 9 100000 (by kernel_rfl) ?_
                refine W.yes 9 100000 (by kernel_rfl) ?_
                refine W.yes 9 100000 (by kernel_rfl) ?_
                refine W.yes 9 100000 (by kernel_rfl) ?_
                refine W.yes 9 100000 (by kernel_rfl) ?_
                refine W.yes 9 100000 (by kernel_rfl) ?_
                cases h299; exact W.at 9 100000 [] [0, 1, 5, 6] (by kernel_rfl) K299
              ·
                refine W.no 9 100000 (by kernel_rfl) ?_
                refine W.no 9 100000 (by kernel_rfl) ?_
                refine W.no 9 100000 (by kernel_rfl) ?_
                refine W.no 9 100000 (by kernel_rfl) ?_
                refine W.cond 9 100000 h299 (by kernel_rfl) (fun h299 => ?_) (fun h299 => ?_)
                ·
                  refine W.yes 9 100000 (by kernel_rfl) ?_
                  refine W.yes 9 100000 (by kernel_rfl) ?_
                  refine W.needT 9 100000 h299 (by kernel_rfl) (fun h299 => ?_)
                  refine W.yes 9 100000 (by kernel_rfl) ?_
                  refine W.bind h299 fun a_282 ha_282 h299 => ?_
                  refine W.call 9 100000 (by kernel_rfl) (version_digit_con ha_282) (by kernel_rfl) ?_
                  refine W.yes 9 100000 (by kernel_rfl) ?_
                  refine W.no 9 100000 (by kernel_rfl) ?_
                  refine W.yes 9 100000 (by kernel_rfl) ?_
                  refine W.no 9 100000 (by kernel_rfl) ?_
                  refine W.cond 9 100000 h299 (by kernel_rfl) (fun h299 => ?_) (fun h299 => ?_)
                  ·
                    cases h299; exact W.at 9 100000 [] [0, 1, 5, 6] (by kernel_rfl) K299
                  ·
                    cases h299; exact W.at 9 100000 [] [0, 1, 5, 6] (by kernel_rfl) K299
                ·
                  refine W.no 9 100000 (by kernel_rfl) ?_
                  refine W.no 9 100000 (by kernel_rfl) ?_
                  refine W.no 9 100000 (by kernel_rfl) ?_
                  refine W.no 9 100000 (by kernel_rfl) ?_
                  refine W.no 9 100000 (by kernel_rfl) ?_
                  refine W.no 9 100000 (by kernel_rfl) ?_
                  refine W.no 9 100000 (by kernel_rfl) ?_
                  refine W.no 9 100000 (by kernel_rfl) ?_
                  cases h299; exact W.at 9 100000 [] [0, 1, 5, 6] (by kernel_rfl) K299
            ·
              refine W.no 9 100000 (by kernel_rfl) ?_
              refine W.no 9 100000 (by kernel_rfl) ?_
              refine W.no 9 100000 (by kernel_rfl) ?_
              refine W.no 9 100000 (by kernel_rfl) ?_
              refine W.no 9 100000 (by kernel_rfl) ?_
              refine W.no 9 100000 (by kernel_rfl) ?_
              refine W.no 9 100000 (by kernel_rfl) ?_
              refine W.no 9 100000 (by kernel_rfl) ?_
              refine W.no 9 100000 (by kernel_rfl) ?_
              refine W.no 9 100000 (by kernel_rfl) ?_
              refine W.cond 9 100000 h299 (by kernel_rfl) (fun h299 => ?_) (fun h299 => ?_)
              ·
                refine W.yes 9 100000 (by kernel_rfl) ?_
                refine W.yes 9 100000 (by kernel_rfl) ?_
                refine W.needT 9 100000 h299 (by kernel_rfl) (fun h299 => ?_)
                refine W.yes 9 100000 (by kernel_rfl) ?_
                refine W.bind h299 fun a_283 ha_283 h299 => ?_
                refine W.call 9 100000 (by kernel_rfl) (version_digit_con ha_283) (by kernel_rfl) ?_
                refine W.yes 9 100000 (by kernel_rfl) ?_
                refine W.no 9 100000 (by kernel_rfl) ?_
                refine W.yes 9 100000 (by kernel_rfl) ?_
                refine W.no 9 100000 (by kernel_rfl) ?_
                refine W.cond 9 100000 h299 (by kernel_rfl) (fun h299 => ?_) (fun h299 => ?_)
                ·
                  cases h299; exact W.at 9 100000 [] [0, 1, 5, 6] (by kernel_rfl) K299
                ·
                  cases h299; exact W.at 9 100000 [] [0, 1, 5, 6] (by kernel_rfl) K299
              ·
                refine W.no 9 100000 (by kernel_rfl) ?_
                refine W.no 9 100000 (by kernel_rfl) ?_
                refine W.no 9 100000 (by kernel_rfl) ?_
                refine W.no 9 100000 (by kernel_rfl) ?_
                refine W.no 9 100000 (by kernel_rfl) ?_
                refine W.no 9 100000 (by kernel_rfl) ?_
                refine W.no 9 100000 (by kernel_rfl) ?_
                refine W.no 9 100000 (by kernel_rfl) ?_
                cases h299; exact W.at 9 100000 [] [0, 1, 5, 6] (by kernel_rfl) K299
      · replace h324 := W.inr (h324)
        refine W.elimR (?_)
        cases h324; exact W.at 3 100000 [] [] (by kernel_rfl) K324
    · refine W.next 3 1 (by kernel_rfl) ?_
      refine W.cond 5 100000 h320 (by kernel_rfl) (fun h320 => ?_) (fun h320 => ?_)
      ·
        refine W.yes 5 100000 (by kernel_rfl) ?_
        refine W.yes 5 100000 (by kernel_rfl) ?_
        refine W.yes 5 100000 (by kernel_rfl) ?_
        refine W.yes 5 100000 (by kernel_rfl) ?_
        refine W.yes 5 100000 (by kernel_rfl) ?_
        cases h320; exact W.at 5 100000 [] [0, 1, 5, 6] (by kernel_rfl) K320
      ·
        refine W.no 5 100000 (by kernel_rfl) ?_
        refine W.no 5 100000 (by kernel_rfl) ?_
        refine W.no 5 100000 (by kernel_rfl) ?_
        refine W.no 5 100000 (by kernel_rfl) ?_
        refine W.cond 5 100000 h320 (by kernel_rfl) (fun h320 => ?_) (fun h320 => ?_)
        ·
          cases h320; exact W.at 5 100000 [] [0, 1, 5, 6] (by kernel_rfl) K320
        ·
          cases h320; exact W.at 5 100000 [] [] (by kernel_rfl) K320

theorem cellarerref05_Order_con {a_332 : List UInt8} {b_333 : List UInt8} {r : Int} (h : cellarerref05_Order a_332 b_333 = some r) : Con Go.Proofs.Tryd.prog 54 [AV.str a_332, AV.str b_333] [] (cellarerref05_Order_res r) (cellarerref05_Order_out r) := by
  refine W.con (by kernel_rfl) ?_
  unfold cellarerref05_Order at h
  refine W.at 0 100000 [] [0, 1] (c' := (fun (s_350 : List UInt8 × List UInt8) => (Cfg.mk Mode.run (headTodo Go.Proofs.Tryd.prog 54 0) (St.mk [AV.str (Prod.fst s_350), AV.str (Prod.snd s_350), jj, jj, jj, jj, jj, jj, jj, jj, jj, jj, jj, jj, jj, jj, jj, jj, jj, jj, jj, jj, jj, jj, jj, jj, jj, jj, jj, jj, jj, jj, jj, jj, jj, jj, jj, jj, jj, jj, jj, jj, jj, jj, jj] [] (0 : Nat)))) (a_332, b_333)) (by kernel_rfl) ?_
  refine W.loop (fun (s_350 : List UInt8 × List UInt8) => (Cfg.mk Mode.run (headTodo Go.Proofs.Tryd.prog 54 0) (St.mk [AV.str (Prod.fst s_350), AV.str (Prod.snd s_350), jj, jj, jj, jj, jj, jj, jj, jj, jj, jj, jj, jj, jj, jj, jj, jj, jj, jj, jj, jj, jj, jj, jj, jj, jj, jj, jj, jj, jj, jj, jj, jj, jj, jj, jj, jj, jj, jj, jj, jj, jj, jj, jj] [] (0 : Nat)))) (fun t => (Sum.elim (fun t_344 => r = (t_344)) (fun t_345 => Walk Go.Proofs.Tryd.prog 54 (Cfg.mk Mode.run ((headTodo Go.Proofs.Tryd.prog 54 0).drop 3) (St.mk [jj, jj, jj, jj, jj, jj, jj, jj, jj, jj, jj, jj, jj, jj, jj, jj, jj, jj, jj, jj, jj, jj, jj, jj, jj, jj, jj, jj, jj, jj, jj, jj, jj, jj, jj, jj, jj, jj, jj, jj, jj, jj, jj, jj, jj] [] (0 : Nat))) (cellarerref05_Order_res r) (cellarerref05_Order_out r))) t) h (fun t h => ?_) (fun s_350 x347 h347 K347 => ?_)
  ·
    rcases t with t_344 | t_345
    · replace h := W.inl (h)
      refine W.elimL (?_)
      exact (Option.some.inj h).symm
    · replace h := W.inr (h)
      refine W.elimR (?_)
      exact W.retT 0 100000 h (by kernel_rfl)
  · unfold cellarerref05_Order_b0 at h347
    refine W.join (fun t => (Sum.elim (fun t_336 => Walk Go.Proofs.Tryd.prog 54 (Cfg.mk Mode.run (seqTodo Go.Proofs.Tryd.prog 54 2) (St.mk [AV.str (Prod.fst s_350), AV.str (Prod.snd s_350), jj, jj, jj, jj, jj, jj, jj, jj, jj, jj, jj, jj, jj, jj, jj, jj, jj, jj, jj, jj, jj, jj, jj, jj, jj, jj, jj, jj, jj, jj, jj, jj, jj, jj, jj, jj, jj, jj, jj, jj, jj, jj, jj] [] (0 : Nat))) (cellarerref05_Order_res r) (cellarerref05_Order_out r)) (fun t_341 => Walk Go.Proofs.Tryd.prog 54 (Cfg.mk Mode.run ((seqTodo Go.Proofs.Tryd.prog 54 2).drop 3) (St.mk [jj, jj, jj, jj, jj, jj, jj, jj, jj, jj, jj, jj, jj, jj, jj, jj, jj, jj, jj, jj, jj, jj, jj, jj, jj, jj, jj, jj, jj, jj, jj, jj, jj, jj, jj, jj, jj, jj, jj, jj, jj, jj, jj, jj, jj] [] (0 : Nat))) (cellarerref05_Order_res r) (cellarerref05_Order_out r))) t) h347 (fun t h347 => ?_) (fun t343 h343 K343 => ?_)
    ·
      rcases t with t_336 | t_341
      · replace h347 := W.inl (h347)
        refine W.elimL (?_)
        refine W.bind h347 fun a_337 ha_337 h347 => ?_
        refine W.call 2 100000 (by kernel_rfl) (cellarerref05_piece_con ha_337) (by kernel_rfl) ?_
        refine W.bind h347 fun a_338 ha_338 h347 => ?_
        refine W.call 2 100000 (by kernel_rfl) (cellarerref05_piece_con ha_338) (by kernel_rfl) ?_
        refine W.bind h347 fun a_339 ha_339 h347 => ?_
        refine W.call 2 100000 (by kernel_rfl) (cellarerref05_words_con ha_339) (by kernel_rfl) ?_
        refine W.cond 2 100000 h347 (by kernel_rfl) (fun h347 => ?_) (fun h347 => ?_)
        ·
          cases h347; exact W.retK 2 100000 K347 (by kernel_rfl)
        ·
          refine W.bind h347 fun a_340 ha_340 h347 => ?_
          refine W.call 2 100000 (by kernel_rfl) (cellarerref05_numbers_con ha_340) (by kernel_rfl) ?_
          refine W.cond 2 100000 h347 (by kernel_rfl) (fun h347 => ?_) (fun h347 => ?_)
          ·
            cases h347; exact W.retK 2 100000 K347 (by kernel_rfl)
          ·
            cases h347; exact W.at 2 100000 [] [0, 1] (by kernel_rfl) K347
      · replace h347 := W.inr (h347)
        refine W.elimR (?_)
        cases h347; exact W.at 2 100000 [] [] (by kernel_rfl) K347
    · refine W.next 2 1 (by kernel_rfl) ?_
      refine W.cond 4 100000 h343 (by kernel_rfl) (fun h343 => ?_) (fun h343 => ?_)
      ·
        refine W.yes 4 100000 (by kernel_rfl) ?_
        refine W.yes 4 100000 (by kernel_rfl) ?_
        refine W.yes 4 100000 (by kernel_rfl) ?_
        cases h343; exact W.at 4 100000 [] [0, 1] (by kernel_rfl) K343
      ·
        refine W.no 4 100000 (by kernel_rfl) ?_
        refine W.no 4 100000 (by kernel_rfl) ?_
        refine W.cond 4 100000 h343 (by kernel_rfl) (fun h343 => ?_) (fun h343 => ?_)
        ·
          cases h343; exact W.at 4 100000 [] [0, 1] (by kernel_rfl) K343
        ·
          cases h343; exact W.at 4 100000 [] [] (by kernel_rfl) K343

theorem version_Parse_con {s_352 : List UInt8} {r : Int × List UInt8 × List UInt8 × Int} (h : version_Parse s_352 = some r) : Con Go.Proofs.Tryd.prog 62 [AV.str s_352] [] (version_Parse_res r) (version_Parse_out r) := by
  refine W.con (by kernel_rfl) ?_
  unfold version_Parse at h
  refine W.cond 0 100000 h (by kernel_rfl) (fun h => ?_) (fun h => ?_)
  ·
    exact W.retT 0 100000 h (by kernel_rfl)
  ·
    refine W.join (fun t => (Sum.elim (fun t_355 => r = ((0 : Int), [], [], (2 : Int))) (fun t_359 => Walk Go.Proofs.Tryd.prog 62 (Cfg.mk Mode.run (seqTodo Go.Proofs.Tryd.prog 62 6) (St.mk [jj, jj, AV.ptr (0 : Nat) (0 : Nat), jj, AV.ptr (1 : Nat) (0 : Nat), AV.str (Prod.fst t_359), AV.str (Prod.fst (Prod.snd t_359)), jj, jj, jj, jj, jj, jj, jj, jj, jj, jj, jj, jj, jj, jj, jj, jj, jj, jj, jj, jj, jj, jj, jj, jj, jj, jj, jj, jj, jj, jj, jj, jj, jj, jj, jj, jj, jj, jj, jj, jj, jj, jj, jj, jj, jj, jj, jj, jj, jj, jj, jj, jj, jj, jj, jj, jj, jj, jj, jj, jj, jj, jj, jj, jj, jj, jj, jj, jj, jj, jj, jj, jj, jj, jj, jj] [AO.box [AV.int IntKind.i64 (0 : Int), AV.str [], AV.str []], AO.box [AV.int IntKind.i64 (Prod.snd (Prod.snd t_359)), AV.str [], AV.str [(48 : UInt8)]]] (0 : Nat))) (version_Parse_res r) (version_Parse_out r))) t) h (fun t h => ?_) (fun t369 h369 K369 => ?_)
    ·
      rcases t with t_355 | t_359
      · replace h := W.inl (h)
        refine W.elimL (?_)
        exact (Option.some.inj h).symm
      · replace h := W.inr (h)
        refine W.elimR (?_)
        refine W.join (fun t_363 => Walk Go.Proofs.Tryd.prog 62 (Cfg.mk Mode.run (seqTodo Go.Proofs.Tryd.prog 62 14) (St.mk [jj, jj, AV.ptr (0 : Nat) (0 : Nat), jj, AV.ptr (1 : Nat) (0 : Nat), AV.str (Prod.fst t_359), jj, jj, jj, jj, jj, jj, jj, jj, jj, jj, jj, jj, jj, jj, jj, jj, jj, jj, jj, jj, jj, jj, jj, jj, jj, jj, jj, jj, jj, jj, jj, jj, jj, jj, jj, jj, jj, jj, jj, jj, jj, jj, jj, jj, jj, jj, jj, jj, jj, jj, jj, jj, jj, jj, jj, jj, jj, jj, jj, jj, jj, jj, jj, jj, jj, jj, jj, jj, jj, jj, jj, jj, jj, jj, jj, jj] [AO.box [AV.int IntKind.i64 (0 : Int), AV.str [], AV.str []], AO.box [AV.int IntKind.i64 (Prod.snd (Prod.snd t_359)), AV.str (Prod.fst t_363), AV.str (Prod.snd t_363)]] (0 : Nat))) (version_Parse_res r) (version_Parse_out r)) h (fun t_363 h => ?_) (fun t368 h368 K368 => ?_)
        ·
          refine W.cond 0 100000 h (by kernel_rfl) (fun h => ?_) (fun h => ?_)
          ·
            refine W.yes 0 100000 (by kernel_rfl) ?_
            refine W.yes 0 100000 (by kernel_rfl) ?_
            refine W.yes 0 100000 (by kernel_rfl) ?_
            refine W.yes 0 100000 (by kernel_rfl) ?_
            refine W.yes 0 100000 (by kernel_rfl) ?_
            refine W.yes 0 100000 (by kernel_rfl) ?_
            refine W.yes 0 100000 (by kernel_rfl) ?_
            refine W.yes 0 100000 (by kernel_rfl) ?_
            refine W.yes 0 100000 (by kernel_rfl) ?_
            refine W.yes 0 100000 (by kernel_rfl) ?_
            refine W.yes 0 100000 (by kernel_rfl) ?_
            refine W.yes 0 100000 (by kernel_rfl) ?_
            refine W.yes 0 100000 (by kernel_rfl) ?_
            refine W.yes 0 100000 (by kernel_rfl) ?_
            refine W.yes 0 100000 (by kernel_rfl) ?_
            refine W.yes 0 100000 (by kernel_rfl) ?_
            refine W.yes 0 100000 (by kernel_rfl) ?_
            refine W.yes 0 100000 (by kernel_rfl) ?_
            refine W.yes 0 100000 (by kernel_rfl) ?_
            refine W.yes 0 100000 (by kernel_rfl) ?_
            refine W.yes 0 100000 (by kernel_rfl) ?_
            exact W.retT 0 100000 h (by kernel_rfl)
          ·
            refine W.no 0 100000 (by kernel_rfl) ?_
            refine W.no 0 100000 (by kernel_rfl) ?_
            refine W.needT 0 100000 h (by kernel_rfl) (fun h => ?_)
            refine W.no 0 100000 (by kernel_rfl) ?_
            refine W.bind h fun a_364 ha_364 h => ?_
            refine W.call 0 100000 (by kernel_rfl) (version_digit_con ha_364) (by kernel_rfl) ?_
            refine W.no 0 100000 (by kernel_rfl) ?_
            refine W.no 0 100000 (by kernel_rfl) ?_
            refine W.cond 0 100000 h (by kernel_rfl) (fun h => ?_) (fun h => ?_)
            ·
              refine W.yes 0 100000 (by kernel_rfl) ?_
              refine W.yes 0 100000 (by kernel_rfl) ?_
              refine W.yes 0 100000 (by kernel_rfl) ?_
              refine W.yes 0 100000 (by kernel_rfl) ?_
              refine W.yes 0 100000 (by kernel_rfl) ?_
              refine W.yes 0 100000 (by kernel_rfl) ?_
              refine W.yes 0 100000 (by kernel_rfl) ?_
              refine W.yes 0 100000 (by kernel_rfl) ?_
              refine W.yes 0 100000 (by kernel_rfl) ?_
              refine W.yes 0 100000 (by kernel_rfl) ?_
              refine W.yes 0 100000 (by kernel_rfl) ?_
              refine W.yes 0 100000 (by kernel_rfl) ?_
              refine W.yes 0 100000 (by kernel_rfl) ?_
              refine W.yes 0 100000 (by kernel_rfl) ?_
              refine W.yes 0 100000 (by kernel_rfl) ?_
              exact W.retT 0 100000 h (by kernel_rfl)
            ·
              refine W.no 0 100000 (by kernel_rfl) ?_
              refine W.no 0 100000 (by kernel_rfl) ?_
              refine W.no 0 100000 (by kernel_rfl) ?_
              refine W.bind h fun a_365 ha_365 h => ?_
              refine W.call 0 100000 (by kernel_rfl) (version_only_con ha_365) (by kernel_rfl) ?_
              refine W.no 0 100000 (by kernel_rfl) ?_
              refine W.no 0 100000 (by kernel_rfl) ?_
              refine W.cond 0 100000 h (by kernel_rfl) (fun h => ?_) (fun h => ?_)
              ·
                refine W.yes 0 100000 (by kernel_rfl) ?_
                refine W.yes 0 100000 (by kernel_rfl) ?_
                refine W.yes 0 100000 (by kernel_rfl) ?_
                refine W.yes 0 100000 (by kernel_rfl) ?_
                refine W.yes 0 100000 (by kernel_rfl) ?_
                refine W.yes 0 100000 (by kernel_rfl) ?_
                refine W.yes 0 100000 (by kernel_rfl) ?_
                refine W.yes 0 100000 (by kernel_rfl) ?_
                refine W.yes 0 100000 (by kernel_rfl) ?_
                exact W.retT 0 100000 h (by kernel_rfl)
              ·
                refine W.no 0 100000 (by kernel_rfl) ?_
                refine W.no 0 100000 (by kernel_rfl) ?_
                refine W.no 0 100000 (by kernel_rfl) ?_
                refine W.cond 0 100000 h (by kernel_rfl) (fun h => ?_) (fun h => ?_)
                ·
                  refine W.yes 0 100000 (by kernel_rfl) ?_
                  refine W.yes 0 100000 (by kernel_rfl) ?_
                  refine W.yes 0 100000 (by kernel_rfl) ?_
                  refine W.yes 0 100000 (by kernel_rfl) ?_
                  refine W.yes 0 100000 (by kernel_rfl) ?_
                  exact W.retT 0 100000 h (by kernel_rfl)
                ·
                  refine W.no 0 100000 (by kernel_rfl) ?_
                  refine W.no 0 100000 (by kernel_rfl) ?_
                  refine W.bind h fun a_366 ha_366 h => ?_
                  refine W.call 0 100000 (by kernel_rfl) (version_only_con ha_366) (by kernel_rfl) ?_
                  refine W.no 0 100000 (by kernel_rfl) ?_
                  refine W.no 0 100000 (by kernel_rfl) ?_
                  refine W.cond 0 100000 h (by kernel_rfl) (fun h => ?_) (fun h => ?_)
                  ·
                    exact W.retT 0 100000 h (by kernel_rfl)
                  ·
                    exact W.retT 0 100000 h (by kernel_rfl)
        · refine W.next 0 7 (by kernel_rfl) ?_
          refine W.bind h368 fun a_360 ha_360 h368 => ?_
          refine W.call 1 100000 (by kernel_rfl) (strings_LastIndexByte_con ha_360) (by kernel_rfl) ?_
          refine W.cond 1 100000 h368 (by kernel_rfl) (fun h368 => ?_) (fun h368 => ?_)
          ·
            refine W.needT 1 100000 h368 (by kernel_rfl) (fun h368 => ?_)
            refine W.needT 1 100000 h368 (by kernel_rfl) (fun h368 => ?_)
            cases h368; exact W.at 1 100000 [] [2, 4, 5] (by kernel_rfl) K368
          ·
            cases h368; exact W.at 1 100000 [] [2, 4, 5] (by kernel_rfl) K368
    · refine W.next 0 14 (by kernel_rfl) ?_
      refine W.bind h369 fun a_353 ha_353 h369 => ?_
      refine W.call 1 100000 (by kernel_rfl) (strings_IndexByte_con ha_353) (by kernel_rfl) ?_
      refine W.cond 1 100000 h369 (by kernel_rfl) (fun h369 => ?_) (fun h369 => ?_)
      ·
        refine W.needT 1 100000 h369 (by kernel_rfl) (fun h369 => ?_)
        refine W.bind h369 fun a_354 ha_354 h369 => ?_
        refine W.call 1 100000 (by kernel_rfl) (version_epoch_con ha_354) (by kernel_rfl) ?_
        refine W.cond 1 100000 h369 (by kernel_rfl) (fun h369 => ?_) (fun h369 => ?_)
        ·
          cases h369; exact W.retK 1 100000 K369 (by kernel_rfl)
        ·
          refine W.needT 1 100000 h369 (by kernel_rfl) (fun h369 => ?_)
          cases h369; exact W.at 1 100000 [] [2, 4, 5, 6] (by kernel_rfl) K369
      ·
        cases h369; exact W.at 1 100000 [] [2, 4, 5, 6] (by kernel_rfl) K369

theorem cellarerref05_Parse_con {s_375 : List UInt8} {r : Int × List UInt8 × List UInt8 × Int} (h : cellarerref05_Parse s_375 = some r) : Con Go.Proofs.Tryd.prog 48 [AV.str s_375] [] (cellarerref05_Parse_res r) (cellarerref05_Parse_out r) := by
  refine W.con (by kernel_rfl) ?_
  unfold cellarerref05_Parse at h
  refine W.cond 0 100000 h (by kernel_rfl) (fun h => ?_) (fun h => ?_)
  ·
    exact W.retT 0 100000 h (by kernel_rfl)
  ·
    refine W.bind h fun a_376 ha_376 h => ?_
    refine W.call 0 100000 (by kernel_rfl) (cellarerref05_at_con ha_376) (by kernel_rfl) ?_
    refine W.join (fun t => (Sum.elim (fun t_399 => r = ((0 : Int), [], [], (2 : Int))) (fun t_403 => Walk Go.Proofs.Tryd.prog 48 (Cfg.mk Mode.run (seqTodo Go.Proofs.Tryd.prog 48 9) (St.mk [jj, jj, AV.ptr (0 : Nat) (0 : Nat), jj, AV.ptr (1 : Nat) (0 : Nat), AV.ptr (2 : Nat) (0 : Nat), jj, AV.str (Prod.fst t_403), AV.str (Prod.fst (Prod.snd t_403)), jj, jj, jj, jj, jj, jj, jj, jj, jj, jj, jj, jj, jj, jj, jj, jj, jj, jj, jj, jj, jj, jj, jj, jj, jj, jj, jj, jj, jj, jj, jj, jj, jj, jj, jj, jj, jj, jj, jj, jj, jj, jj, jj, jj, jj, jj, jj, jj, jj, jj, jj, jj, jj, jj, jj, jj, jj, jj, jj, jj, jj, jj, jj, jj, jj, jj, jj, jj, jj, jj, jj, jj, jj, jj, jj, jj, jj, jj, jj, jj, jj, jj, jj, jj, jj, jj, jj, jj, jj, jj] [AO.box [AV.int IntKind.i64 (0 : Int), AV.str [], AV.str []], AO.box [AV.int IntKind.i64 (Prod.snd (Prod.snd t_403)), AV.str [], AV.str [(48 : UInt8)]], AO.box [AV.int IntKind.i64 (0 : Int), AV.str [], AV.str []]] (0 : Nat))) (cellarerref05_Parse_res r) (cellarerref05_Parse_out r))) t) h (fun t h => ?_) (fun t413 h413 K413 => ?_)
    ·
      rcases t with t_399 | t_403
      · replace h := W.inl (h)
        refine W.elimL (?_)
        exact (Option.some.inj h).symm
      · replace h := W.inr (h)
        refine W.elimR (?_)
        refine W.bind h fun a_404 ha_404 h => ?_
        refine W.call 0 100000 (by kernel_rfl) (cellarerref05_at_con ha_404) (by kernel_rfl) ?_
        refine W.join (fun t_407 => Walk Go.Proofs.Tryd.prog 48 (Cfg.mk Mode.run (seqTodo Go.Proofs.Tryd.prog 48 25) (St.mk [jj, jj, AV.ptr (0 : Nat) (0 : Nat), jj, AV.ptr (1 : Nat) (0 : Nat), AV.ptr (2 : Nat) (0 : Nat), jj, AV.str (Prod.fst t_403), jj, jj, jj, jj, jj, jj, jj, jj, jj, jj, jj, jj, jj, jj, jj, jj, jj, jj, jj, jj, jj, jj, jj, jj, jj, jj, jj, jj, jj, jj, jj, jj, jj, jj, jj, jj, jj, jj, jj, jj, jj, jj, jj, jj, jj, jj, jj, jj, jj, jj, jj, jj, jj, jj, jj, jj, jj, jj, jj, jj, jj, jj, jj, jj, jj, jj, jj, jj, jj, jj, jj, jj, jj, jj, jj, jj, jj, jj, jj, jj, jj, jj, jj, jj, jj, jj, jj, jj, jj, jj, jj] [AO.box [AV.int IntKind.i64 (0 : Int), AV.str [], AV.str []], AO.box [AV.int IntKind.i64 (Prod.snd (Prod.snd t_403)), AV.str (Prod.fst t_407), AV.str (Prod.snd t_407)], AO.box [AV.int IntKind.i64 (0 : Int), AV.str [], AV.str []]] (0 : Nat))) (cellarerref05_Parse_res r) (cellarerref05_Parse_out r)) h (fun t_407 h => ?_) (fun t412 h412 K412 => ?_)
        ·
          refine W.cond 0 100000 h (by kernel_rfl) (fun h => ?_) (fun h => ?_)
          ·
            refine W.yes 0 100000 (by kernel_rfl) ?_
            refine W.yes 0 100000 (by kernel_rfl) ?_
            refine W.yes 0 100000 (by kernel_rfl) ?_
            refine W.yes 0 100000 (by kernel_rfl) ?_
            refine W.yes 0 100000 (by kernel_rfl) ?_
            refine W.yes 0 100000 (by kernel_rfl) ?_
            refine W.yes 0 100000 (by kernel_rfl) ?_
            refine W.yes 0 100000 (by kernel_rfl) ?_
            refine W.yes 0 100000 (by kernel_rfl) ?_
            refine W.yes 0 100000 (by kernel_rfl) ?_
            refine W.yes 0 100000 (by kernel_rfl) ?_
            refine W.yes 0 100000 (by kernel_rfl) ?_
            refine W.yes 0 100000 (by kernel_rfl) ?_
            refine W.yes 0 100000 (by kernel_rfl) ?_
            refine W.yes 0 100000 (by kernel_rfl) ?_
            refine W.yes 0 100000 (by kernel_rfl) ?_
            refine W.yes 0 100000 (by kernel_rfl) ?_
            refine W.yes 0 100000 (by kernel_rfl) ?_
            refine W.yes 0 100000 (by kernel_rfl) ?_
            refine W.yes 0 100000 (by kernel_rfl) ?_
            refine W.yes 0 100000 (by kernel_rfl) ?_
            exact W.retT 0 100000 h (by kernel_rfl)
          ·
            refine W.no 0 100000 (by kernel_rfl) ?_
            refine W.no 0 100000 (by kernel_rfl) ?_
            refine W.needT 0 100000 h (by kernel_rfl) (fun h => ?_)
            refine W.no 0 100000 (by kernel_rfl) ?_
            refine W.bind h fun a_408 ha_408 h => ?_
            refine W.call 0 100000 (by kernel_rfl) (cellarerref05_Digit_con ha_408) (by kernel_rfl) ?_
            refine W.no 0 100000 (by kernel_rfl) ?_
            refine W.no 0 100000 (by kernel_rfl) ?_
            refine W.cond 0 100000 h (by kernel_rfl) (fun h => ?_) (fun h => ?_)
            ·
              refine W.yes 0 100000 (by kernel_rfl) ?_
              refine W.yes 0 100000 (by kernel_rfl) ?_
              refine W.yes 0 100000 (by kernel_rfl) ?_
              refine W.yes 0 100000 (by kernel_rfl) ?_
              refine W.yes 0 100000 (by kernel_rfl) ?_
              refine W.yes 0 100000 (by kernel_rfl) ?_
              refine W.yes 0 100000 (by kernel_rfl) ?_
              refine W.yes 0 100000 (by kernel_rfl) ?_
              refine W.yes 0 100000 (by kernel_rfl) ?_
              refine W.yes 0 100000 (by kernel_rfl) ?_
              refine W.yes 0 100000 (by kernel_rfl) ?_
              refine W.yes 0 100000 (by kernel_rfl) ?_
              refine W.yes 0 100000 (by kernel_rfl) ?_
              refine W.yes 0 100000 (by kernel_rfl) ?_
              refine W.yes 0 100000 (by kernel_rfl) ?_
              exact W.retT 0 100000 h (by kernel_rfl)
            ·
              refine W.no 0 100000 (by kernel_rfl) ?_
              refine W.no 0 100000 (by kernel_rfl) ?_
              refine W.no 0 100000 (by kernel_rfl) ?_
              refine W.bind h fun a_409 ha_409 h => ?_
              refine W.call 0 100000 (by kernel_rfl) (cellarerref05_only_con ha_409) (by kernel_rfl) ?_
              refine W.no 0 100000 (by kernel_rfl) ?_
              refine W.no 0 100000 (by kernel_rfl) ?_
              refine W.cond 0 100000 h (by kernel_rfl) (fun h => ?_) (fun h => ?_)
              ·
                refine W.yes 0 100000 (by kernel_rfl) ?_
                refine W.yes 0 100000 (by kernel_rfl) ?_
                refine W.yes 0 100000 (by kernel_rfl) ?_
                refine W.yes 0 100000 (by kernel_rfl) ?_
                refine W.yes 0 100000 (by kernel_rfl) ?_
                refine W.yes 0 100000 (by kernel_rfl) ?_
                refine W.yes 0 100000 (by kernel_rfl) ?_
                refine W.yes 0 100000 (by kernel_rfl) ?_
                refine W.yes 0 100000 (by kernel_rfl) ?_
                exact W.retT 0 100000 h (by kernel_rfl)
              ·
                refine W.no 0 100000 (by kernel_rfl) ?_
                refine W.no 0 100000 (by kernel_rfl) ?_
                refine W.no 0 100000 (by kernel_rfl) ?_
                refine W.cond 0 100000 h (by kernel_rfl) (fun h => ?_) (fun h => ?_)
                ·
                  refine W.yes 0 100000 (by kernel_rfl) ?_
                  refine W.yes 0 100000 (by kernel_rfl) ?_
                  refine W.yes 0 100000 (by kernel_rfl) ?_
                  refine W.yes 0 100000 (by kernel_rfl) ?_
                  refine W.yes 0 100000 (by kernel_rfl) ?_
                  exact W.retT 0 100000 h (by kernel_rfl)
                ·
                  refine W.no 0 100000 (by kernel_rfl) ?_
                  refine W.no 0 100000 (by kernel_rfl) ?_
                  refine W.bind h fun a_410 ha_410 h => ?_
                  refine W.call 0 100000 (by kernel_rfl) (cellarerref05_only_con ha_410) (by kernel_rfl) ?_
                  refine W.no 0 100000 (by kernel_rfl) ?_
                  refine W.no 0 100000 (by kernel_rfl) ?_
                  refine W.cond 0 100000 h (by kernel_rfl) (fun h => ?_) (fun h => ?_)
                  ·
                    exact W.retT 0 100000 h (by kernel_rfl)
                  ·
                    exact W.retT 0 100000 h (by kernel_rfl)
        · refine W.next 0 3 (by kernel_rfl) ?_
          refine W.cond 1 100000 h412 (by kernel_rfl) (fun h412 => ?_) (fun h412 => ?_)
          ·
            refine W.needT 1 100000 h412 (by kernel_rfl) (fun h412 => ?_)
            refine W.needT 1 100000 h412 (by kernel_rfl) (fun h412 => ?_)
            cases h412; exact W.at 1 100000 [] [2, 4, 5, 7] (by kernel_rfl) K412
          ·
            cases h412; exact W.at 1 100000 [] [2, 4, 5, 7] (by kernel_rfl) K412
    · refine W.next 0 12 (by kernel_rfl) ?_
      refine W.cond 1 100000 h413 (by kernel_rfl) (fun h413 => ?_) (fun h413 => ?_)
      ·
        refine W.needT 1 100000 h413 (by kernel_rfl) (fun h413 => ?_)
        refine W.join (fun t => (Sum.elim (fun t_377 => r = ((0 : Int), [], [], (2 : Int))) (fun t_378 => Walk Go.Proofs.Tryd.prog 48 (Cfg.mk Mode.run (seqTodo Go.Proofs.Tryd.prog 48 13) (St.mk [AV.str s_375, jj, AV.ptr (0 : Nat) (0 : Nat), jj, AV.ptr (1 : Nat) (0 : Nat), AV.ptr (2 : Nat) (0 : Nat), AV.int IntKind.i64 a_376, AV.str [(46 : UInt8), (43 : UInt8), (45 : UInt8), (126 : UInt8), (58 : UInt8)], AV.str (List.drop (Int.toNat (IntKind.wrap IntKind.i64 (a_376 + (1 : Int)))) (List.take (Int.toNat (↑(List.length s_375) : Int)) s_375)), jj, jj, jj, jj, jj, jj, jj, jj, jj, jj, jj, jj, jj, jj, jj, jj, jj, jj, jj, jj, jj, jj, jj, jj, jj, jj, jj, jj, jj, jj, jj, jj, jj, jj, jj, jj, jj, jj, jj, jj, jj, jj, jj, jj, jj, jj, jj, jj, jj, jj, jj, jj, jj, jj, jj, jj, jj, jj, jj, jj, jj, jj, jj, jj, jj, jj, jj, jj, jj, jj, jj, jj, jj, jj, jj, jj, jj, jj, jj, jj, jj, jj, jj, jj, jj, jj, jj, jj, jj, jj] [AO.box [AV.int IntKind.i64 (0 : Int), AV.str [], AV.str []], AO.box [AV.int IntKind.i64 (0 : Int), AV.str [], AV.str [(48 : UInt8)]], AO.box [AV.int IntKind.i64 (0 : Int), AV.str [], AV.str []]] (0 : Nat))) (cellarerref05_Parse_res r) (cellarerref05_Parse_out r))) t) h413 (fun t h413 => ?_) (fun t399 h399 K399 => ?_)
        ·
          rcases t with t_377 | t_378
          · replace h413 := W.inl (h413)
            refine W.elimL (?_)
            cases h413; exact K413
          · replace h413 := W.inr (h413)
            refine W.elimR (?_)
            refine W.at 1 100000 [] [0, 2, 4, 5, 6, 7, 8, 9] (c' := (fun (s_419 : Int × Int) => (Cfg.mk Mode.run (headTodo Go.Proofs.Tryd.prog 48 0) (St.mk [AV.str s_375, jj, AV.ptr (0 : Nat) (0 : Nat), jj, AV.ptr (1 : Nat) (0 : Nat), AV.ptr (2 : Nat) (0 : Nat), AV.int IntKind.i64 a_376, AV.str [(46 : UInt8), (43 : UInt8), (45 : UInt8), (126 : UInt8), (58 : UInt8)], AV.str (List.drop (Int.toNat (IntKind.wrap IntKind.i64 (a_376 + (1 : Int)))) (List.take (Int.toNat (↑(List.length s_375) : Int)) s_375)), AV.int IntKind.i64 (Prod.fst s_419), jj, jj, jj, jj, jj, jj, jj, jj, jj, jj, jj, jj, jj, jj, jj, jj, jj, jj, jj, jj, jj, jj, jj, jj, jj, jj, jj, jj, jj, jj, jj, jj, jj, jj, jj, jj, jj, jj, jj, jj, jj, jj, jj, jj, jj, jj, jj, jj, jj, jj, jj, jj, jj, jj, jj, jj, jj, jj, jj, jj, jj, jj, jj, jj, jj, jj, jj, jj, jj, jj, jj, jj, jj, jj, jj, jj, jj, jj, jj, jj, jj, jj, jj, jj, jj, jj, jj, jj, jj] [AO.box [AV.int IntKind.i64 (0 : Int), AV.str [], AV.str []], AO.box [AV.int IntKind.i64 (Prod.snd s_419), AV.str [], AV.str [(48 : UInt8)]], AO.box [AV.int IntKind.i64 (0 : Int), AV.str [], AV.str []]] (0 : Nat)))) ((0 : Int), (0 : Int))) (by kernel_rfl) ?_
            refine W.loop (fun (s_419 : Int × Int) => (Cfg.mk Mode.run (headTodo Go.Proofs.Tryd.prog 48 0) (St.mk [AV.str s_375, jj, AV.ptr (0 : Nat) (0 : Nat), jj, AV.ptr (1 : Nat) (0 : Nat), AV.ptr (2 : Nat) (0 : Nat), AV.int IntKind.i64 a_376, AV.str [(46 : UInt8), (43 : UInt8), (45 : UInt8), (126 : UInt8), (58 : UInt8)], AV.str (List.drop (Int.toNat (IntKind.wrap IntKind.i64 (a_376 + (1 : Int)))) (List.take (Int.toNat (↑(List.length s_375) : Int)) s_375)), AV.int IntKind.i64 (Prod.fst s_419), jj, jj, jj, jj, jj, jj, jj, jj, jj, jj, jj, jj, jj, jj, jj, jj, jj, jj, jj, jj, jj, jj, jj, jj, jj, jj, jj, jj, jj, jj, jj, jj, jj, jj, jj, jj, jj, jj, jj, jj, jj, jj, jj, jj, jj, jj, jj, jj, jj, jj, jj, jj, jj, jj, jj, jj, jj, jj, jj, jj, jj, jj, jj, jj, jj, jj, jj, jj, jj, jj, jj, jj, jj, jj, jj, jj, jj, jj, jj, jj, jj, jj, jj, jj, jj, jj, jj, jj, jj] [AO.box [AV.int IntKind.i64 (0 : Int), AV.str [], AV.str []], AO.box [AV.int IntKind.i64 (Prod.snd s_419), AV.str [], AV.str [(48 : UInt8)]], AO.box [AV.int IntKind.i64 (0 : Int), AV.str [], AV.str []]] (0 : Nat)))) (fun t => (Sum.elim (fun t_394 => r = ((0 : Int), [], [], (2 : Int))) (fun t_396 => Walk Go.Proofs.Tryd.prog 48 (Cfg.mk Mode.run ((headTodo Go.Proofs.Tryd.prog 48 0).drop 3) (St.mk [jj, jj, AV.ptr (0 : Nat) (0 : Nat), jj, AV.ptr (1 : Nat) (0 : Nat), AV.ptr (2 : Nat) (0 : Nat), jj, AV.str [(46 : UInt8), (43 : UInt8), (45 : UInt8), (126 : UInt8), (58 : UInt8)], AV.str (List.drop (Int.toNat (IntKind.wrap IntKind.i64 (a_376 + (1 : Int)))) (List.take (Int.toNat (↑(List.length s_375) : Int)) s_375)), jj, jj, jj, jj, jj, jj, jj, jj, jj, jj, jj, jj, jj, jj, jj, jj, jj, jj, jj, jj, jj, jj, jj, jj, jj, jj, jj, jj, jj, jj, jj, jj, jj, jj, jj, jj, jj, jj, jj, jj, jj, jj, jj, jj, jj, jj, jj, jj, jj, jj, jj, jj, jj, jj, jj, jj, jj, jj, jj, jj, jj, jj, jj, jj, jj, jj, jj, jj, jj, jj, jj, jj, jj, jj, jj, jj, jj, jj, jj, jj, jj, jj, jj, jj, jj, jj, jj, jj, jj, jj] [AO.box [AV.int IntKind.i64 (0 : Int), AV.str [], AV.str []], AO.box [AV.int IntKind.i64 t_396, AV.str [], AV.str [(48 : UInt8)]], AO.box [AV.int IntKind.i64 (0 : Int), AV.str [], AV.str []]] (0 : Nat))) (cellarerref05_Parse_res r) (cellarerref05_Parse_out r))) t) h413 (fun t h413 => ?_) (fun s_419 x398 h398 K398 => ?_)
            ·
              rcases t with t_394 | t_396
              · replace h413 := W.inl (h413)
                refine W.elimL (?_)
                cases h413; exact K413
              · replace h413 := W.inr (h413)
                refine W.elimR (?_)
                cases h413; exact W.at 1 100000 [] [2, 4, 5, 7, 8] (by kernel_rfl) K413
            · unfold cellarerref05_Parse_b0 at h398
              refine W.cond 2 100000 h398 (by kernel_rfl) (fun h398 => ?_) (fun h398 => ?_)
              ·
                refine W.needT 2 100000 h398 (by kernel_rfl) (fun h398 => ?_)
                refine W.bind h398 fun a_393 ha_393 h398 => ?_
                refine W.call 2 100000 (by kernel_rfl) (cellarerref05_Digit_con ha_393) (by kernel_rfl) ?_
                refine W.cond 2 100000 h398 (by kernel_rfl) (fun h398 => ?_) (fun h398 => ?_)
                ·
                  cases h398; exact W.retK 2 100000 K398 (by kernel_rfl)
                ·
                  refine W.needT 2 100000 h398 (by kernel_rfl) (fun h398 => ?_)
                  cases h398; exact W.at 2 100000 [] [0, 2, 4, 5, 6, 7, 8, 9] (by kernel_rfl) K398
              ·
                cases h398; exact W.at 2 100000 [] [2, 4, 5, 7, 8] (by kernel_rfl) K398
        · refine W.next 1 3 (by kernel_rfl) ?_
          refine W.cond 2 100000 h399 (by kernel_rfl) (fun h399 => ?_) (fun h399 => ?_)
          ·
            refine W.yes 2 100000 (by kernel_rfl) ?_
            refine W.yes 2 100000 (by kernel_rfl) ?_
            refine W.yes 2 100000 (by kernel_rfl) ?_
            cases h399; exact W.retK 2 100000 K399 (by kernel_rfl)
          ·
            refine W.no 2 100000 (by kernel_rfl) ?_
            refine W.no 2 100000 (by kernel_rfl) ?_
            refine W.cond 2 100000 h399 (by kernel_rfl) (fun h399 => ?_) (fun h399 => ?_)
            ·
              cases h399; exact W.retK 2 100000 K399 (by kernel_rfl)
            ·
              cases h399; exact W.at 2 100000 [] [0, 2, 4, 5, 6, 7, 8] (by kernel_rfl) K399
      ·
        cases h413; exact W.at 1 100000 [] [2, 4, 5, 7, 8] (by kernel_rfl) K413

theorem version_parsed_con {s_424 : List UInt8} {r : Int × List UInt8 × List UInt8} (h : version_parsed s_424 = some r) : Con Go.Proofs.Tryd.prog 55 [AV.str s_424] [] (version_parsed_res r) (version_parsed_out r) := by
  refine W.con (by kernel_rfl) ?_
  unfold version_parsed at h
  refine W.bind h fun a_425 ha_425 h => ?_
  refine W.call 0 100000 (by kernel_rfl) (version_Parse_con ha_425) (by kernel_rfl) ?_
  refine W.cond 0 100000 h (by kernel_rfl) (fun h => ?_) (fun h => ?_)
  ·
    exact W.retT 0 100000 h (by kernel_rfl)
  ·
    exact W.retT 0 100000 h (by kernel_rfl)

theorem version_Compare_con {a_422 : List UInt8} {b_423 : List UInt8} {r : Int} (h : version_Compare a_422 b_423 = some r) : Con Go.Proofs.Tryd.prog 50 [AV.str a_422, AV.str b_423] [] (version_Compare_res r) (version_Compare_out r) := by
  refine W.con (by kernel_rfl) ?_
  unfold version_Compare at h
  refine W.bind h fun a_430 ha_430 h => ?_
  refine W.call 0 100000 (by kernel_rfl) (version_parsed_con ha_430) (by kernel_rfl) ?_
  refine W.bind h fun a_431 ha_431 h => ?_
  refine W.call 0 100000 (by kernel_rfl) (version_parsed_con ha_431) (by kernel_rfl) ?_
  refine W.bind h fun a_432 ha_432 h => ?_
  refine W.call 0 100000 (by kernel_rfl) (cmp_Compare_int__con ha_432) (by kernel_rfl) ?_
  refine W.cond 0 100000 h (by kernel_rfl) (fun h => ?_) (fun h => ?_)
  ·
    exact W.retT 0 100000 h (by kernel_rfl)
  ·
    refine W.bind h fun a_433 ha_433 h => ?_
    refine W.call 0 100000 (by kernel_rfl) (version_Order_con ha_433) (by kernel_rfl) ?_
    refine W.cond 0 100000 h (by kernel_rfl) (fun h => ?_) (fun h => ?_)
    ·
      exact W.retT 0 100000 h (by kernel_rfl)
    ·
      refine W.bind h fun a_434 ha_434 h => ?_
      refine W.call 0 100000 (by kernel_rfl) (version_Order_con ha_434) (by kernel_rfl) ?_
      exact W.retT 0 100000 h (by kernel_rfl)

theorem cellarerref05_Compare_con {a_439 : List UInt8} {b_440 : List UInt8} {r : Int} (h : cellarerref05_Compare a_439 b_440 = some r) : Con Go.Proofs.Tryd.prog 49 [AV.str a_439, AV.str b_440] [] (cellarerref05_Compare_res r) (cellarerref05_Compare_out r) := by
  refine W.con (by kernel_rfl) ?_
  unfold cellarerref05_Compare at h
  refine W.bind h fun a_441 ha_441 h => ?_
  refine W.call 0 100000 (by kernel_rfl) (cellarerref05_Parse_con ha_441) (by kernel_rfl) ?_
  refine W.join (fun t_445 => Walk Go.Proofs.Tryd.prog 49 (Cfg.mk Mode.run (seqTodo Go.Proofs.Tryd.prog 49 2) (St.mk [jj, AV.str b_440, jj, jj, jj, AV.ptr (0 : Nat) (0 : Nat), jj, jj, jj, jj, jj, jj, jj, jj, jj, jj, jj, jj, jj, jj, jj, jj, jj, jj, jj, jj, jj, jj, jj, jj, jj, jj, jj, jj, jj, jj, jj, jj, jj, jj, jj, jj, jj, jj, jj, jj, jj, jj, jj, jj, jj, jj, jj] [AO.box [AV.int IntKind.i64 (Prod.fst t_445), AV.str (Prod.fst (Prod.snd t_445)), AV.str (Prod.snd (Prod.snd t_445))]] (0 : Nat))) (cellarerref05_Compare_res r) (cellarerref05_Compare_out r)) h (fun t_445 h => ?_) (fun t455 h455 K455 => ?_)
  ·
    refine W.bind h fun a_446 ha_446 h => ?_
    refine W.call 0 100000 (by kernel_rfl) (cellarerref05_Parse_con ha_446) (by kernel_rfl) ?_
    refine W.join (fun t_450 => Walk Go.Proofs.Tryd.prog 49 (Cfg.mk Mode.run (seqTodo Go.Proofs.Tryd.prog 49 5) (St.mk [jj, jj, jj, jj, jj, AV.ptr (0 : Nat) (0 : Nat), jj, AV.ptr (1 : Nat) (0 : Nat), jj, jj, jj, jj, jj, jj, jj, jj, jj, jj, jj, jj, jj, jj, jj, jj, jj, jj, jj, jj, jj, jj, jj, jj, jj, jj, jj, jj, jj, jj, jj, jj, jj, jj, jj, jj, jj, jj, jj, jj, jj, jj, jj, jj, jj] [AO.box [AV.int IntKind.i64 (Prod.fst t_445), AV.str (Prod.fst (Prod.snd t_445)), AV.str (Prod.snd (Prod.snd t_445))], AO.box [AV.int IntKind.i64 (Prod.fst t_450), AV.str (Prod.fst (Prod.snd t_450)), AV.str (Prod.snd (Prod.snd t_450))]] (0 : Nat))) (cellarerref05_Compare_res r) (cellarerref05_Compare_out r)) h (fun t_450 h => ?_) (fun t454 h454 K454 => ?_)
    ·
      refine W.cond 0 100000 h (by kernel_rfl) (fun h => ?_) (fun h => ?_)
      ·
        exact W.retT 0 100000 h (by kernel_rfl)
      ·
        refine W.cond 0 100000 h (by kernel_rfl) (fun h => ?_) (fun h => ?_)
        ·
          exact W.retT 0 100000 h (by kernel_rfl)
        ·
          refine W.bind h fun a_451 ha_451 h => ?_
          refine W.call 0 100000 (by kernel_rfl) (cellarerref05_Order_con ha_451) (by kernel_rfl) ?_
          refine W.cond 0 100000 h (by kernel_rfl) (fun h => ?_) (fun h => ?_)
          ·
            exact W.retT 0 100000 h (by kernel_rfl)
          ·
            refine W.bind h fun a_452 ha_452 h => ?_
            refine W.call 0 100000 (by kernel_rfl) (cellarerref05_Order_con ha_452) (by kernel_rfl) ?_
            exact W.retT 0 100000 h (by kernel_rfl)
    · refine W.next 0 8 (by kernel_rfl) ?_
      refine W.cond 1 100000 h454 (by kernel_rfl) (fun h454 => ?_) (fun h454 => ?_)
      ·
        cases h454; exact W.at 1 100000 [] [5, 7] (by kernel_rfl) K454
      ·
        cases h454; exact W.at 1 100000 [] [5, 7] (by kernel_rfl) K454
  · refine W.next 0 8 (by kernel_rfl) ?_
    refine W.cond 1 100000 h455 (by kernel_rfl) (fun h455 => ?_) (fun h455 => ?_)
    ·
      cases h455; exact W.at 1 100000 [] [1, 5] (by kernel_rfl) K455
    ·
      cases h455; exact W.at 1 100000 [] [1, 5] (by kernel_rfl) K455

theorem version_Holds_con {v_460 : List UInt8} {op_461 : List UInt8} {other_462 : List UInt8} {r : Bool} (h : version_Holds v_460 op_461 other_462 = some r) : Con Go.Proofs.Tryd.prog 46 [AV.str v_460, AV.str op_461, AV.str other_462] [] (version_Holds_res r) (version_Holds_out r) := by
  refine W.con (by kernel_rfl) ?_
  unfold version_Holds at h
  refine W.bind h fun a_463 ha_463 h => ?_
  refine W.call 0 100000 (by kernel_rfl) (version_Compare_con ha_463) (by kernel_rfl) ?_
  refine W.cond 0 100000 h (by kernel_rfl) (fun h => ?_) (fun h => ?_)
  ·
    exact W.retT 0 100000 h (by kernel_rfl)
  ·
    refine W.cond 0 100000 h (by kernel_rfl) (fun h => ?_) (fun h => ?_)
    ·
      exact W.retT 0 100000 h (by kernel_rfl)
    ·
      refine W.cond 0 100000 h (by kernel_rfl) (fun h => ?_) (fun h => ?_)
      ·
        exact W.retT 0 100000 h (by kernel_rfl)
      ·
        refine W.cond 0 100000 h (by kernel_rfl) (fun h => ?_) (fun h => ?_)
        ·
          exact W.retT 0 100000 h (by kernel_rfl)
        ·
          refine W.cond 0 100000 h (by kernel_rfl) (fun h => ?_) (fun h => ?_)
          ·
            exact W.retT 0 100000 h (by kernel_rfl)
          ·
            exact W.retT 0 100000 h (by kernel_rfl)

theorem cellarerref05_Holds_con {v_469 : List UInt8} {op_470 : List UInt8} {other_471 : List UInt8} {r : Bool} (h : cellarerref05_Holds v_469 op_470 other_471 = some r) : Con Go.Proofs.Tryd.prog 43 [AV.str v_469, AV.str op_470, AV.str other_471] [] (cellarerref05_Holds_res r) (cellarerref05_Holds_out r) := by
  refine W.con (by kernel_rfl) ?_
  unfold cellarerref05_Holds at h
  refine W.bind h fun a_472 ha_472 h => ?_
  refine W.call 0 100000 (by kernel_rfl) (cellarerref05_Compare_con ha_472) (by kernel_rfl) ?_
  refine W.cond 0 100000 h (by kernel_rfl) (fun h => ?_) (fun h => ?_)
  ·
    refine W.yes 0 100000 (by kernel_rfl) ?_
    refine W.yes 0 100000 (by kernel_rfl) ?_
    refine W.yes 0 100000 (by kernel_rfl) ?_
    refine W.yes 0 100000 (by kernel_rfl) ?_
    refine W.yes 0 100000 (by kernel_rfl) ?_
    refine W.yes 0 100000 (by kernel_rfl) ?_
    refine W.yes 0 100000 (by kernel_rfl) ?_
    refine W.yes 0 100000 (by kernel_rfl) ?_
    refine W.yes 0 100000 (by kernel_rfl) ?_
    refine W.yes 0 100000 (by kernel_rfl) ?_
    refine W.yes 0 100000 (by kernel_rfl) ?_
    refine W.yes 0 100000 (by kernel_rfl) ?_
    refine W.yes 0 100000 (by kernel_rfl) ?_
    refine W.yes 0 100000 (by kernel_rfl) ?_
    refine W.yes 0 100000 (by kernel_rfl) ?_
    refine W.yes 0 100000 (by kernel_rfl) ?_
    refine W.yes 0 100000 (by kernel_rfl) ?_
    refine W.yes 0 100000 (by kernel_rfl) ?_
    refine W.yes 0 100000 (by kernel_rfl) ?_
    refine W.yes 0 100000 (by kernel_rfl) ?_
    refine W.yes 0 100000 (by kernel_rfl) ?_
    refine W.yes 0 100000 (by kernel_rfl) ?_
    refine W.yes 0 100000 (by kernel_rfl) ?_
    refine W.yes 0 100000 (by kernel_rfl) ?_
    exact W.retT 0 100000 h (by kernel_rfl)
  ·
    refine W.no 0 100000 (by kernel_rfl) ?_
    refine W.no 0 100000 (by kernel_rfl) ?_
    refine W.cond 0 100000 h (by kernel_rfl) (fun h => ?_) (fun h => ?_)
    ·
      refine W.yes 0 100000 (by kernel_rfl) ?_
      refine W.no 0 100000 (by kernel_rfl) ?_
      refine W.yes 0 100000 (by kernel_rfl) ?_
      refine W.no 0 100000 (by kernel_rfl) ?_
      refine W.cond 0 100000 h (by kernel_rfl) (fun h => ?_) (fun h => ?_)
      ·
        refine W.yes 0 100000 (by kernel_rfl) ?_
        refine W.yes 0 100000 (by kernel_rfl) ?_
        refine W.yes 0 100000 (by kernel_rfl) ?_
        refine W.yes 0 100000 (by kernel_rfl) ?_
        refine W.yes 0 100000 (by kernel_rfl) ?_
        refine W.yes 0 100000 (by kernel_rfl) ?_
        refine W.yes 0 100000 (by kernel_rfl) ?_
        refine W.yes 0 100000 (by kernel_rfl) ?_
        refine W.yes 0 100000 (by kernel_rfl) ?_
        refine W.yes 0 100000 (by kernel_rfl) ?_
        refine W.yes 0 100000 (by kernel_rfl) ?_
        refine W.yes 0 100000 (by kernel_rfl) ?_
        refine W.yes 0 100000 (by kernel_rfl) ?_
        refine W.yes 0 100000 (by kernel_rfl) ?_
        refine W.yes 0 100000 (by kernel_rfl) ?_
        refine W.yes 0 100000 (by kernel_rfl) ?_
        refine W.yes 0 100000 (by kernel_rfl) ?_
        refine W.yes 0 100000 (by kernel_rfl) ?_
        refine W.yes 0 100000 (by kernel_rfl) ?_
        exact W.retT 0 100000 h (by kernel_rfl)
      ·
        refine W.no 0 100000 (by kernel_rfl) ?_
        refine W.no 0 100000 (by kernel_rfl) ?_
        refine W.cond 0 100000 h (by kernel_rfl) (fun h => ?_) (fun h => ?_)
        ·
          refine W.yes 0 100000 (by kernel_rfl) ?_
          refine W.no 0 100000 (by kernel_rfl) ?_
          refine W.yes 0 100000 (by kernel_rfl) ?_
          refine W.no 0 100000 (by kernel_rfl) ?_
          refine W.cond 0 100000 h (by kernel_rfl) (fun h => ?_) (fun h => ?_)
          ·
            refine W.yes 0 100000 (by kernel_rfl) ?_
            refine W.yes 0 100000 (by kernel_rfl) ?_
            refine W.yes 0 100000 (by kernel_rfl) ?_
            refine W.yes 0 100000 (by kernel_rfl) ?_
            refine W.yes 0 100000 (by kernel_rfl) ?_
            refine W.yes 0 100000 (by kernel_rfl) ?_
            refine W.yes 0 100000 (by kernel_rfl) ?_
            refine W.yes 0 100000 (by kernel_rfl) ?_
            refine W.yes 0 100000 (by kernel_rfl) ?_
            refine W.yes 0 100000 (by kernel_rfl) ?_
            refine W.yes 0 100000 (by kernel_rfl) ?_
            refine W.yes 0 100000 (by kernel_rfl) ?_
            refine W.yes 0 100000 (by kernel_rfl) ?_
            refine W.yes 0 100000 (by kernel_rfl) ?_
            exact W.retT 0 100000 h (by kernel_rfl)
          ·
            refine W.no 0 100000 (by kernel_rfl) ?_
            refine W.no 0 100000 (by kernel_rfl) ?_
            refine W.cond 0 100000 h (by kernel_rfl) (fun h => ?_) (fun h => ?_)
            ·
              refine W.yes 0 100000 (by kernel_rfl) ?_
              refine W.no 0 100000 (by kernel_rfl) ?_
              refine W.yes 0 100000 (by kernel_rfl) ?_
              refine W.no 0 100000 (by kernel_rfl) ?_
              refine W.cond 0 100000 h (by kernel_rfl) (fun h => ?_) (fun h => ?_)
              ·
                refine W.yes 0 100000 (by kernel_rfl) ?_
                refine W.yes 0 100000 (by kernel_rfl) ?_
                refine W.yes 0 100000 (by kernel_rfl) ?_
                refine W.yes 0 100000 (by kernel_rfl) ?_
                refine W.yes 0 100000 (by kernel_rfl) ?_
                refine W.yes 0 100000 (by kernel_rfl) ?_
                refine W.yes 0 100000 (by kernel_rfl) ?_
                refine W.yes 0 100000 (by kernel_rfl) ?_
                refine W.yes 0 100000 (by kernel_rfl) ?_
                exact W.retT 0 100000 h (by kernel_rfl)
              ·
                refine W.no 0 100000 (by kernel_rfl) ?_
                refine W.no 0 100000 (by kernel_rfl) ?_
                refine W.cond 0 100000 h (by kernel_rfl) (fun h => ?_) (fun h => ?_)
                ·
                  refine W.yes 0 100000 (by kernel_rfl) ?_
                  refine W.no 0 100000 (by kernel_rfl) ?_
                  refine W.yes 0 100000 (by kernel_rfl) ?_
                  refine W.no 0 100000 (by kernel_rfl) ?_
                  refine W.cond 0 100000 h (by kernel_rfl) (fun h => ?_) (fun h => ?_)
                  ·
                    refine W.yes 0 100000 (by kernel_rfl) ?_
                    refine W.yes 0 100000 (by kernel_rfl) ?_
                    refine W.yes 0 100000 (by kernel_rfl) ?_
                    refine W.yes 0 100000 (by kernel_rfl) ?_
                    exact W.retT 0 100000 h (by kernel_rfl)
                  ·
                    refine W.no 0 100000 (by kernel_rfl) ?_
                    refine W.no 0 100000 (by kernel_rfl) ?_
                    refine W.cond 0 100000 h (by kernel_rfl) (fun h => ?_) (fun h => ?_)
                    ·
                      refine W.yes 0 100000 (by kernel_rfl) ?_
                      refine W.no 0 100000 (by kernel_rfl) ?_
                      refine W.yes 0 100000 (by kernel_rfl) ?_
                      refine W.no 0 100000 (by kernel_rfl) ?_
                      exact W.retT 0 100000 h (by kernel_rfl)
                    ·
                      refine W.no 0 100000 (by kernel_rfl) ?_
                      refine W.no 0 100000 (by kernel_rfl) ?_
                      refine W.no 0 100000 (by kernel_rfl) ?_
                      refine W.no 0 100000 (by kernel_rfl) ?_
                      exact W.retT 0 100000 h (by kernel_rfl)
                ·
                  refine W.no 0 100000 (by kernel_rfl) ?_
                  refine W.no 0 100000 (by kernel_rfl) ?_
                  refine W.no 0 100000 (by kernel_rfl) ?_
                  refine W.no 0 100000 (by kernel_rfl) ?_
                  refine W.no 0 100000 (by kernel_rfl) ?_
                  refine W.no 0 100000 (by kernel_rfl) ?_
                  refine W.no 0 100000 (by kernel_rfl) ?_
                  refine W.cond 0 100000 h (by kernel_rfl) (fun h => ?_) (fun h => ?_)
                  ·
                    refine W.yes 0 100000 (by kernel_rfl) ?_
                    refine W.no 0 100000 (by kernel_rfl) ?_
                    refine W.yes 0 100000 (by kernel_rfl) ?_
                    refine W.no 0 100000 (by kernel_rfl) ?_
                    exact W.retT 0 100000 h (by kernel_rfl)
                  ·
                    refine W.no 0 100000 (by kernel_rfl) ?_
                    refine W.no 0 100000 (by kernel_rfl) ?_
                    refine W.no 0 100000 (by kernel_rfl) ?_
                    refine W.no 0 100000 (by kernel_rfl) ?_
                    exact W.retT 0 100000 h (by kernel_rfl)
            ·
              refine W.no 0 100000 (by kernel_rfl) ?_
              refine W.no 0 100000 (by kernel_rfl) ?_
              refine W.no 0 100000 (by kernel_rfl) ?_
              refine W.no 0 100000 (by kernel_rfl) ?_
              refine W.no 0 100000 (by kernel_rfl) ?_
              refine W.no 0 100000 (by kernel_rfl) ?_
              refine W.no 0 100000 (by kernel_rfl) ?_
              refine W.cond 0 100000 h (by kernel_rfl) (fun h => ?_) (fun h => ?_)
              ·
                refine W.yes 0 100000 (by kernel_rfl) ?_
                refine W.no 0 100000 (by kernel_rfl) ?_
                refine W.yes 0 100000 (by kernel_rfl) ?_
                refine W.no 0 100000 (by kernel_rfl) ?_
                refine W.cond 0 100000 h (by kernel_rfl) (fun h => ?_) (fun h => ?_)
                ·
                  refine W.yes 0 100000 (by kernel_rfl) ?_
                  refine W.yes 0 100000 (by kernel_rfl) ?_
                  refine W.yes 0 100000 (by kernel_rfl) ?_
                  refine W.yes 0 100000 (by kernel_rfl) ?_
                  exact W.retT 0 100000 h (by kernel_rfl)
                ·
                  refine W.no 0 100000 (by kernel_rfl) ?_
                  refine W.no 0 100000 (by kernel_rfl) ?_
                  refine W.cond 0 100000 h (by kernel_rfl) (fun h => ?_) (fun h => ?_)
                  ·
                    refine W.yes 0 100000 (by kernel_rfl) ?_
                    refine W.no 0 100000 (by kernel_rfl) ?_
                    refine W.yes 0 100000 (by kernel_rfl) ?_
                    refine W.no 0 100000 (by kernel_rfl) ?_
                    exact W.retT 0 100000 h (by kernel_rfl)
                  ·
                    refine W.no 0 100000 (by kernel_rfl) ?_
                    refine W.no 0 100000 (by kernel_rfl) ?_
                    refine W.no 0 100000 (by kernel_rfl) ?_
                    refine W.no 0 100000 (by kernel_rfl) ?_
                    exact W.retT 0 100000 h (by kernel_rfl)
              ·
                refine W.no 0 100000 (by kernel_rfl) ?_
                refine W.no 0 100000 (by kernel_rfl) ?_
                refine W.no 0 100000 (by kernel_rfl) ?_
                refine W.no 0 100000 (by kernel_rfl) ?_
                refine W.no 0 100000 (by kernel_rfl) ?_
                refine W.no 0 100000 (by kernel_rfl) ?_
                refine W.no 0 100000 (by kernel_rfl) ?_
                refine W.cond 0 100000 h (by kernel_rfl) (fun h => ?_) (fun h => ?_)
                ·
                  refine W.yes 0 100000 (by kernel_rfl) ?_
                  refine W.no 0 100000 (by kernel_rfl) ?_
                  refine W.yes 0 100000 (by kernel_rfl) ?_
                  refine W.no 0 100000 (by kernel_rfl) ?_
                  exact W.retT 0 100000 h (by kernel_rfl)
                ·
                  refine W.no 0 100000 (by kernel_rfl) ?_
                  refine W.no 0 100000 (by kernel_rfl) ?_
                  refine W.no 0 100000 (by kernel_rfl) ?_
                  refine W.no 0 100000 (by kernel_rfl) ?_
                  exact W.retT 0 100000 h (by kernel_rfl)
        ·
          refine W.no 0 100000 (by kernel_rfl) ?_
          refine W.no 0 100000 (by kernel_rfl) ?_
          refine W.no 0 100000 (by kernel_rfl) ?_
          refine W.no 0 100000 (by kernel_rfl) ?_
          refine W.no 0 100000 (by kernel_rfl) ?_
          refine W.no 0 100000 (by kernel_rfl) ?_
          refine W.no 0 100000 (by kernel_rfl) ?_
          refine W.cond 0 100000 h (by kernel_rfl) (fun h => ?_) (fun h => ?_)
          ·
            refine W.yes 0 100000 (by kernel_rfl) ?_
            refine W.no 0 100000 (by kernel_rfl) ?_
            refine W.yes 0 100000 (by kernel_rfl) ?_
            refine W.no 0 100000 (by kernel_rfl) ?_
            refine W.cond 0 100000 h (by kernel_rfl) (fun h => ?_) (fun h => ?_)
            ·
              refine W.yes 0 100000 (by kernel_rfl) ?_
              refine W.yes 0 100000 (by kernel_rfl) ?_
              refine W.yes 0 100000 (by kernel_rfl) ?_
              refine W.yes 0 100000 (by kernel_rfl) ?_
              refine W.yes 0 100000 (by kernel_rfl) ?_
              refine W.yes 0 100000 (by kernel_rfl) ?_
              refine W.yes 0 100000 (by kernel_rfl) ?_
              refine W.yes 0 100000 (by kernel_rfl) ?_
              refine W.yes 0 100000 (by kernel_rfl) ?_
              exact W.retT 0 100000 h (by kernel_rfl)
            ·
              refine W.no 0 100000 (by kernel_rfl) ?_
              refine W.no 0 100000 (by kernel_rfl) ?_
              refine W.cond 0 100000 h (by kernel_rfl) (fun h => ?_) (fun h => ?_)
              ·
                refine W.yes 0 100000 (by kernel_rfl) ?_
                refine W.no 0 100000 (by kernel_rfl) ?_
                refine W.yes 0 100000 (by kernel_rfl) ?_
                refine W.no 0 100000 (by kernel_rfl) ?_
                refine W.cond 0 100000 h (by kernel_rfl) (fun h => ?_) (fun h => ?_)
                ·
                  refine W.yes 0 100000 (by kernel_rfl) ?_
                  refine W.yes 0 100000 (by kernel_rfl) ?_
                  refine W.yes 0 100000 (by kernel_rfl) ?_
                  refine W.yes 0 100000 (by kernel_rfl) ?_
                  exact W.retT 0 100000 h (by kernel_rfl)
                ·
                  refine W.no 0 100000 (by kernel_rfl) ?_
                  refine W.no 0 100000 (by kernel_rfl) ?_
                  refine W.cond 0 100000 h (by kernel_rfl) (fun h => ?_) (fun h => ?_)
                  ·
                    refine W.yes 0 100000 (by kernel_rfl) ?_
                    refine W.no 0 100000 (by kernel_rfl) ?_
                    refine W.yes 0 100000 (by kernel_rfl) ?_
                    refine W.no 0 100000 (by kernel_rfl) ?_
                    exact W.retT 0 100000 h (by kernel_rfl)
                  ·
                    refine W.no 0 100000 (by kernel_rfl) ?_
                    refine W.no 0 100000 (by kernel_rfl) ?_
                    refine W.no 0 100000 (by kernel_rfl) ?_
                    refine W.no 0 100000 (by kernel_rfl) ?_
                    exact W.retT 0 100000 h (by kernel_rfl)
              ·
                refine W.no 0 100000 (by kernel_rfl) ?_
                refine W.no 0 100000 (by kernel_rfl) ?_
                refine W.no 0 100000 (by kernel_rfl) ?_
                refine W.no 0 100000 (by kernel_rfl) ?_
                refine W.no 0 100000 (by kernel_rfl) ?_
                refine W.no 0 100000 (by kernel_rfl) ?_
                refine W.no 0 100000 (by kernel_rfl) ?_
                refine W.cond 0 100000 h (by kernel_rfl) (fun h => ?_) (fun h => ?_)
                ·
                  refine W.yes 0 100000 (by kernel_rfl) ?_
                  refine W.no 0 100000 (by kernel_rfl) ?_
                  refine W.yes 0 100000 (by kernel_rfl) ?_
                  refine W.no 0 100000 (by kernel_rfl) ?_
                  exact W.retT 0 100000 h (by kernel_rfl)
                ·
                  refine W.no 0 100000 (by kernel_rfl) ?_
                  refine W.no 0 100000 (by kernel_rfl) ?_
                  refine W.no 0 100000 (by kernel_rfl) ?_
                  refine W.no 0 100000 (by kernel_rfl) ?_
                  exact W.retT 0 100000 h (by kernel_rfl)
          ·
            refine W.no 0 100000 (by kernel_rfl) ?_
            refine W.no 0 100000 (by kernel_rfl) ?_
            refine W.no 0 100000 (by kernel_rfl) ?_
            refine W.no 0 100000 (by kernel_rfl) ?_
            refine W.no 0 100000 (by kernel_rfl) ?_
            refine W.no 0 100000 (by kernel_rfl) ?_
            refine W.no 0 100000 (by kernel_rfl) ?_
            refine W.cond 0 100000 h (by kernel_rfl) (fun h => ?_) (fun h => ?_)
            ·
              refine W.yes 0 100000 (by kernel_rfl) ?_
              refine W.no 0 100000 (by kernel_rfl) ?_
              refine W.yes 0 100000 (by kernel_rfl) ?_
              refine W.no 0 100000 (by kernel_rfl) ?_
              refine W.cond 0 100000 h (by kernel_rfl) (fun h => ?_) (fun h => ?_)
              ·
                refine W.yes 0 100000 (by kernel_rfl) ?_
                refine W.yes 0 100000 (by kernel_rfl) ?_
                refine W.yes 0 100000 (by kernel_rfl) ?_
                refine W.yes 0 100000 (by kernel_rfl) ?_
                exact W.retT 0 100000 h (by kernel_rfl)
              ·
                refine W.no 0 100000 (by kernel_rfl) ?_
                refine W.no 0 100000 (by kernel_rfl) ?_
                refine W.cond 0 100000 h (by kernel_rfl) (fun h => ?_) (fun h => ?_)
                ·
                  refine W.yes 0 100000 (by kernel_rfl) ?_
                  refine W.no 0 100000 (by kernel_rfl) ?_
                  refine W.yes 0 100000 (by kernel_rfl) ?_
                  refine W.no 0 100000 (by kernel_rfl) ?_
                  exact W.retT 0 100000 h (by kernel_rfl)
                ·
                  refine W.no 0 100000 (by kernel_rfl) ?_
                  refine W.no 0 100000 (by kernel_rfl) ?_
                  refine W.no 0 100000 (by kernel_rfl) ?_
                  refine W.no 0 100000 (by kernel_rfl) ?_
                  exact W.retT 0 100000 h (by kernel_rfl)
            ·
              refine W.no 0 100000 (by kernel_rfl) ?_
              refine W.no 0 100000 (by kernel_rfl) ?_
              refine W.no 0 100000 (by kernel_rfl) ?_
              refine W.no 0 100000 (by kernel_rfl) ?_
              refine W.no 0 100000 (by kernel_rfl) ?_
              refine W.no 0 100000 (by kernel_rfl) ?_
              refine W.no 0 100000 (by kernel_rfl) ?_
              refine W.cond 0 100000 h (by kernel_rfl) (fun h => ?_) (fun h => ?_)
              ·
                refine W.yes 0 100000 (by kernel_rfl) ?_
                refine W.no 0 100000 (by kernel_rfl) ?_
                refine W.yes 0 100000 (by kernel_rfl) ?_
                refine W.no 0 100000 (by kernel_rfl) ?_
                exact W.retT 0 100000 h (by kernel_rfl)
              ·
                refine W.no 0 100000 (by kernel_rfl) ?_
                refine W.no 0 100000 (by kernel_rfl) ?_
                refine W.no 0 100000 (by kernel_rfl) ?_
                refine W.no 0 100000 (by kernel_rfl) ?_
                exact W.retT 0 100000 h (by kernel_rfl)
    ·
      refine W.no 0 100000 (by kernel_rfl) ?_
      refine W.no 0 100000 (by kernel_rfl) ?_
      refine W.no 0 100000 (by kernel_rfl) ?_
      refine W.no 0 100000 (by kernel_rfl) ?_
      refine W.no 0 100000 (by kernel_rfl) ?_
      refine W.no 0 100000 (by kernel_rfl) ?_
      refine W.no 0 100000 (by kernel_rfl) ?_
      refine W.cond 0 100000 h (by kernel_rfl) (fun h => ?_) (fun h => ?_)
      ·
        refine W.yes 0 100000 (by kernel_rfl) ?_
        refine W.no 0 100000 (by kernel_rfl) ?_
        refine W.yes 0 100000 (by kernel_rfl) ?_
        refine W.no 0 100000 (by kernel_rfl) ?_
        refine W.cond 0 100000 h (by kernel_rfl) (fun h => ?_) (fun h => ?_)
        ·
          refine W.yes 0 100000 (by kernel_rfl) ?_
          refine W.yes 0 100000 (by kernel_rfl) ?_
          refine W.yes 0 100000 (by kernel_rfl) ?_
          refine W.yes 0 100000 (by kernel_rfl) ?_
          refine W.yes 0 100000 (by kernel_rfl) ?_
          refine W.yes 0 100000 (by kernel_rfl) ?_
          refine W.yes 0 100000 (by kernel_rfl) ?_
          refine W.yes 0 100000 (by kernel_rfl) ?_
          refine W.yes 0 100000 (by kernel_rfl) ?_
          refine W.yes 0 100000 (by kernel_rfl) ?_
          refine W.yes 0 100000 (by kernel_rfl) ?_
          refine W.yes 0 100000 (by kernel_rfl) ?_
          refine W.yes 0 100000 (by kernel_rfl) ?_
          refine W.yes 0 100000 (by kernel_rfl) ?_
          exact W.retT 0 100000 h (by kernel_rfl)
        ·
          refine W.no 0 100000 (by kernel_rfl) ?_
          refine W.no 0 100000 (by kernel_rfl) ?_
          refine W.cond 0 100000 h (by kernel_rfl) (fun h => ?_) (fun h => ?_)
          ·
            refine W.yes 0 100000 (by kernel_rfl) ?_
            refine W.no 0 100000 (by kernel_rfl) ?_
            refine W.yes 0 100000 (by kernel_rfl) ?_
            refine W.no 0 100000 (by kernel_rfl) ?_
            refine W.cond 0 100000 h (by kernel_rfl) (fun h => ?_) (fun h => ?_)
            ·
              refine W.yes 0 100000 (by kernel_rfl) ?_
              refine W.yes 0 100000 (by kernel_rfl) ?_
              refine W.yes 0 100000 (by kernel_rfl) ?_
              refine W.yes 0 100000 (by kernel_rfl) ?_
              refine W.yes 0 100000 (by kernel_rfl) ?_
              refine W.yes 0 100000 (by kernel_rfl) ?_
              refine W.yes 0 100000 (by kernel_rfl) ?_
              refine W.yes 0 100000 (by kernel_rfl) ?_
              refine W.yes 0 100000 (by kernel_rfl) ?_
              exact W.retT 0 100000 h (by kernel_rfl)
            ·
              refine W.no 0 100000 (by kernel_rfl) ?_
              refine W.no 0 100000 (by kernel_rfl) ?_
              refine W.cond 0 100000 h (by kernel_rfl) (fun h => ?_) (fun h => ?_)
              ·
                refine W.yes 0 100000 (by kernel_rfl) ?_
                refine W.no 0 100000 (by kernel_rfl) ?_
                refine W.yes 0 100000 (by kernel_rfl) ?_
                refine W.no 0 100000 (by kernel_rfl) ?_
                refine W.cond 0 100000 h (by kernel_rfl) (fun h => ?_) (fun h => ?_)
                ·
                  refine W.yes 0 100000 (by kernel_rfl) ?_
                  refine W.yes 0 100000 (by kernel_rfl) ?_
                  refine W.yes 0 100000 (by kernel_rfl) ?_
                  refine W.yes 0 100000 (by kernel_rfl) ?_
                  exact W.retT 0 100000 h (by kernel_rfl)
                ·
                  refine W.no 0 100000 (by kernel_rfl) ?_
                  refine W.no 0 100000 (by kernel_rfl) ?_
                  refine W.cond 0 100000 h (by kernel_rfl) (fun h => ?_) (fun h => ?_)
                  ·
                    refine W.yes 0 100000 (by kernel_rfl) ?_
                    refine W.no 0 100000 (by kernel_rfl) ?_
                    refine W.yes 0 100000 (by kernel_rfl) ?_
                    refine W.no 0 100000 (by kernel_rfl) ?_
                    exact W.retT 0 100000 h (by kernel_rfl)
                  ·
                    refine W.no 0 100000 (by kernel_rfl) ?_
                    refine W.no 0 100000 (by kernel_rfl) ?_
                    refine W.no 0 100000 (by kernel_rfl) ?_
                    refine W.no 0 100000 (by kernel_rfl) ?_
                    exact W.retT 0 100000 h (by kernel_rfl)
              ·
                refine W.no 0 100000 (by kernel_rfl) ?_
                refine W.no 0 100000 (by kernel_rfl) ?_
                refine W.no 0 100000 (by kernel_rfl) ?_
                refine W.no 0 100000 (by kernel_rfl) ?_
                refine W.no 0 100000 (by kernel_rfl) ?_
                refine W.no 0 100000 (by kernel_rfl) ?_
                refine W.no 0 100000 (by kernel_rfl) ?_
                refine W.cond 0 100000 h (by kernel_rfl) (fun h => ?_) (fun h => ?_)
                ·
                  refine W.yes 0 100000 (by kernel_rfl) ?_
                  refine W.no 0 100000 (by kernel_rfl) ?_
                  refine W.yes 0 100000 (by kernel_rfl) ?_
                  refine W.no 0 100000 (by kernel_rfl) ?_
                  exact W.retT 0 100000 h (by kernel_rfl)
                ·
                  refine W.no 0 100000 (by kernel_rfl) ?_
                  refine W.no 0 100000 (by kernel_rfl) ?_
                  refine W.no 0 100000 (by kernel_rfl) ?_
                  refine W.no 0 100000 (by kernel_rfl) ?_
                  exact W.retT 0 100000 h (by kernel_rfl)
          ·
            refine W.no 0 100000 (by kernel_rfl) ?_
            refine W.no 0 100000 (by kernel_rfl) ?_
            refine W.no 0 100000 (by kernel_rfl) ?_
            refine W.no 0 100000 (by kernel_rfl) ?_
            refine W.no 0 100000 (by kernel_rfl) ?_
            refine W.no 0 100000 (by kernel_rfl) ?_
            refine W.no 0 100000 (by kernel_rfl) ?_
            refine W.cond 0 100000 h (by kernel_rfl) (fun h => ?_) (fun h => ?_)
            ·
              refine W.yes 0 100000 (by kernel_rfl) ?_
              refine W.no 0 100000 (by kernel_rfl) ?_
              refine W.yes 0 100000 (by kernel_rfl) ?_
              refine W.no 0 100000 (by kernel_rfl) ?_
              refine W.cond 0 100000 h (by kernel_rfl) (fun h => ?_) (fun h => ?_)
              ·
                refine W.yes 0 100000 (by kernel_rfl) ?_
                refine W.yes 0 100000 (by kernel_rfl) ?_
                refine W.yes 0 100000 (by kernel_rfl) ?_
                refine W.yes 0 100000 (by kernel_rfl) ?_
                exact W.retT 0 100000 h (by kernel_rfl)
              ·
                refine W.no 0 100000 (by kernel_rfl) ?_
                refine W.no 0 100000 (by kernel_rfl) ?_
                refine W.cond 0 100000 h (by kernel_rfl) (fun h => ?_) (fun h => ?_)
                ·
                  refine W.yes 0 100000 (by kernel_rfl) ?_
                  refine W.no 0 100000 (by kernel_rfl) ?_
                  refine W.yes 0 100000 (by kernel_rfl) ?_
                  refine W.no 0 100000 (by kernel_rfl) ?_
                  exact W.retT 0 100000 h (by kernel_rfl)
                ·
                  refine W.no 0 100000 (by kernel_rfl) ?_
                  refine W.no 0 100000 (by kernel_rfl) ?_
                  refine W.no 0 100000 (by kernel_rfl) ?_
                  refine W.no 0 100000 (by kernel_rfl) ?_
                  exact W.retT 0 100000 h (by kernel_rfl)
            ·
              refine W.no 0 100000 (by kernel_rfl) ?_
              refine W.no 0 100000 (by kernel_rfl) ?_
              refine W.no 0 100000 (by kernel_rfl) ?_
              refine W.no 0 100000 (by kernel_rfl) ?_
              refine W.no 0 100000 (by kernel_rfl) ?_
              refine W.no 0 100000 (by kernel_rfl) ?_
              refine W.no 0 100000 (by kernel_rfl) ?_
              refine W.cond 0 100000 h (by kernel_rfl) (fun h => ?_) (fun h => ?_)
              ·
                refine W.yes 0 100000 (by kernel_rfl) ?_
                refine W.no 0 100000 (by kernel_rfl) ?_
                refine W.yes 0 100000 (by kernel_rfl) ?_
                refine W.no 0 100000 (by kernel_rfl) ?_
                exact W.retT 0 100000 h (by kernel_rfl)
              ·
                refine W.no 0 100000 (by kernel_rfl) ?_
                refine W.no 0 100000 (by kernel_rfl) ?_
                refine W.no 0 100000 (by kernel_rfl) ?_
                refine W.no 0 100000 (by kernel_rfl) ?_
                exact W.retT 0 100000 h (by kernel_rfl)
      ·
        refine W.no 0 100000 (by kernel_rfl) ?_
        refine W.no 0 100000 (by kernel_rfl) ?_
        refine W.no 0 100000 (by kernel_rfl) ?_
        refine W.no 0 100000 (by kernel_rfl) ?_
        refine W.no 0 100000 (by kernel_rfl) ?_
        refine W.no 0 100000 (by kernel_rfl) ?_
        refine W.no 0 100000 (by kernel_rfl) ?_
        refine W.cond 0 100000 h (by kernel_rfl) (fun h => ?_) (fun h => ?_)
        ·
          refine W.yes 0 100000 (by kernel_rfl) ?_
          refine W.no 0 100000 (by kernel_rfl) ?_
          refine W.yes 0 100000 (by kernel_rfl) ?_
          refine W.no 0 100000 (by kernel_rfl) ?_
          refine W.cond 0 100000 h (by kernel_rfl) (fun h => ?_) (fun h => ?_)
          ·
            refine W.yes 0 100000 (by kernel_rfl) ?_
            refine W.yes 0 100000 (by kernel_rfl) ?_
            refine W.yes 0 100000 (by kernel_rfl) ?_
            refine W.yes 0 100000 (by kernel_rfl) ?_
            refine W.yes 0 100000 (by kernel_rfl) ?_
            refine W.yes 0 100000 (by kernel_rfl) ?_
            refine W.yes 0 100000 (by kernel_rfl) ?_
            refine W.yes 0 100000 (by kernel_rfl) ?_
            refine W.yes 0 100000 (by kernel_rfl) ?_
            exact W.retT 0 100000 h (by kernel_rfl)
          ·
            refine W.no 0 100000 (by kernel_rfl) ?_
            refine W.no 0 100000 (by kernel_rfl) ?_
            refine W.cond 0 100000 h (by kernel_rfl) (fun h => ?_) (fun h => ?_)
            ·
              refine W.yes 0 100000 (by kernel_rfl) ?_
              refine W.no 0 100000 (by kernel_rfl) ?_
              refine W.yes 0 100000 (by kernel_rfl) ?_
              refine W.no 0 100000 (by kernel_rfl) ?_
              refine W.cond 0 100000 h (by kernel_rfl) (fun h => ?_) (fun h => ?_)
              ·
                refine W.yes 0 100000 (by kernel_rfl) ?_
                refine W.yes 0 100000 (by kernel_rfl) ?_
                refine W.yes 0 100000 (by kernel_rfl) ?_
                refine W.yes 0 100000 (by kernel_rfl) ?_
                exact W.retT 0 100000 h (by kernel_rfl)
              ·
                refine W.no 0 100000 (by kernel_rfl) ?_
                refine W.no 0 100000 (by kernel_rfl) ?_
                refine W.cond 0 100000 h (by kernel_rfl) (fun h => ?_) (fun h => ?_)
                ·
                  refine W.yes 0 100000 (by kernel_rfl) ?_
                  refine W.no 0 100000 (by kernel_rfl) ?_
                  refine W.yes 0 100000 (by kernel_rfl) ?_
                  refine W.no 0 100000 (by kernel_rfl) ?_
                  exact W.retT 0 100000 h (by kernel_rfl)
                ·
                  refine W.no 0 100000 (by kernel_rfl) ?_
                  refine W.no 0 100000 (by kernel_rfl) ?_
                  refine W.no 0 100000 (by kernel_rfl) ?_
                  refine W.no 0 100000 (by kernel_rfl) ?_
                  exact W.retT 0 100000 h (by kernel_rfl)
            ·
              refine W.no 0 100000 (by kernel_rfl) ?_
              refine W.no 0 100000 (by kernel_rfl) ?_
              refine W.no 0 100000 (by kernel_rfl) ?_
              refine W.no 0 100000 (by kernel_rfl) ?_
              refine W.no 0 100000 (by kernel_rfl) ?_
              refine W.no 0 100000 (by kernel_rfl) ?_
              refine W.no 0 100000 (by kernel_rfl) ?_
              refine W.cond 0 100000 h (by kernel_rfl) (fun h => ?_) (fun h => ?_)
              ·
                refine W.yes 0 100000 (by kernel_rfl) ?_
                refine W.no 0 100000 (by kernel_rfl) ?_
                refine W.yes 0 100000 (by kernel_rfl) ?_
                refine W.no 0 100000 (by kernel_rfl) ?_
                exact W.retT 0 100000 h (by kernel_rfl)
              ·
                refine W.no 0 100000 (by kernel_rfl) ?_
                refine W.no 0 100000 (by kernel_rfl) ?_
                refine W.no 0 100000 (by kernel_rfl) ?_
                refine W.no 0 100000 (by kernel_rfl) ?_
                exact W.retT 0 100000 h (by kernel_rfl)
        ·
          refine W.no 0 100000 (by kernel_rfl) ?_
          refine W.no 0 100000 (by kernel_rfl) ?_
          refine W.no 0 100000 (by kernel_rfl) ?_
          refine W.no 0 100000 (by kernel_rfl) ?_
          refine W.no 0 100000 (by kernel_rfl) ?_
          refine W.no 0 100000 (by kernel_rfl) ?_
          refine W.no 0 100000 (by kernel_rfl) ?_
          refine W.cond 0 100000 h (by kernel_rfl) (fun h => ?_) (fun h => ?_)
          ·
            refine W.yes 0 100000 (by kernel_rfl) ?_
            refine W.no 0 100000 (by kernel_rfl) ?_
            refine W.yes 0 100000 (by kernel_rfl) ?_
            refine W.no 0 100000 (by kernel_rfl) ?_
            refine W.cond 0 100000 h (by kernel_rfl) (fun h => ?_) (fun h => ?_)
            ·
              refine W.yes 0 100000 (by kernel_rfl) ?_
              refine W.yes 0 100000 (by kernel_rfl) ?_
              refine W.yes 0 100000 (by kernel_rfl) ?_
              refine W.yes 0 100000 (by kernel_rfl) ?_
              exact W.retT 0 100000 h (by kernel_rfl)
            ·
              refine W.no 0 100000 (by kernel_rfl) ?_
              refine W.no 0 100000 (by kernel_rfl) ?_
              refine W.cond 0 100000 h (by kernel_rfl) (fun h => ?_) (fun h => ?_)
              ·
                refine W.yes 0 100000 (by kernel_rfl) ?_
                refine W.no 0 100000 (by kernel_rfl) ?_
                refine W.yes 0 100000 (by kernel_rfl) ?_
                refine W.no 0 100000 (by kernel_rfl) ?_
                exact W.retT 0 100000 h (by kernel_rfl)
              ·
                refine W.no 0 100000 (by kernel_rfl) ?_
                refine W.no 0 100000 (by kernel_rfl) ?_
                refine W.no 0 100000 (by kernel_rfl) ?_
                refine W.no 0 100000 (by kernel_rfl) ?_
                exact W.retT 0 100000 h (by kernel_rfl)
          ·
            refine W.no 0 100000 (by kernel_rfl) ?_
            refine W.no 0 100000 (by kernel_rfl) ?_
            refine W.no 0 100000 (by kernel_rfl) ?_
            refine W.no 0 100000 (by kernel_rfl) ?_
            refine W.no 0 100000 (by kernel_rfl) ?_
            refine W.no 0 100000 (by kernel_rfl) ?_
            refine W.no 0 100000 (by kernel_rfl) ?_
            refine W.cond 0 100000 h (by kernel_rfl) (fun h => ?_) (fun h => ?_)
            ·
              refine W.yes 0 100000 (by kernel_rfl) ?_
              refine W.no 0 100000 (by kernel_rfl) ?_
              refine W.yes 0 100000 (by kernel_rfl) ?_
              refine W.no 0 100000 (by kernel_rfl) ?_
              exact W.retT 0 100000 h (by kernel_rfl)
            ·
              refine W.no 0 100000 (by kernel_rfl) ?_
              refine W.no 0 100000 (by kernel_rfl) ?_
              refine W.no 0 100000 (by kernel_rfl) ?_
              refine W.no 0 100000 (by kernel_rfl) ?_
              exact W.retT 0 100000 h (by kernel_rfl)

theorem cellarerref02_Name_con {s_476 : List UInt8} {r : Bool} (h : cellarerref02_Name s_476 = some r) : Con Go.Proofs.Tryd.prog 47 [AV.str s_476] [] (cellarerref02_Name_res r) (cellarerref02_Name_out r) := by
  refine W.con (by kernel_rfl) ?_
  unfold cellarerref02_Name at h
  refine W.at 0 100000 [] [0, 3] (c' := (fun (s_494 : Int) => (Cfg.mk Mode.run (headTodo Go.Proofs.Tryd.prog 47 0) (St.mk [AV.str s_476, jj, jj, AV.int IntKind.i64 s_494, jj, jj, jj, jj, jj, jj, jj, jj, jj, jj, jj, jj, jj, jj, jj, jj, jj, jj, jj, jj, jj, jj, jj, jj, jj, jj, jj, jj, jj, jj, jj, jj, jj, jj, jj, jj, jj, jj, jj, jj, jj, jj, jj, jj, jj, jj, jj, jj, jj, jj, jj, jj, jj, jj, jj, jj, jj, jj, jj, jj] [] (0 : Nat)))) ((0 : Int))) (by kernel_rfl) ?_
  refine W.loop (fun (s_494 : Int) => (Cfg.mk Mode.run (headTodo Go.Proofs.Tryd.prog 47 0) (St.mk [AV.str s_476, jj, jj, AV.int IntKind.i64 s_494, jj, jj, jj, jj, jj, jj, jj, jj, jj, jj, jj, jj, jj, jj, jj, jj, jj, jj, jj, jj, jj, jj, jj, jj, jj, jj, jj, jj, jj, jj, jj, jj, jj, jj, jj, jj, jj, jj, jj, jj, jj, jj, jj, jj, jj, jj, jj, jj, jj, jj, jj, jj, jj, jj, jj, jj, jj, jj, jj, jj] [] (0 : Nat)))) (fun t => (Sum.elim (fun t_488 => r = (Bool.false)) (fun t_489 => Walk Go.Proofs.Tryd.prog 47 (Cfg.mk Mode.run ((headTodo Go.Proofs.Tryd.prog 47 0).drop 3) (St.mk [AV.str s_476, jj, jj, jj, jj, jj, jj, jj, jj, jj, jj, jj, jj, jj, jj, jj, jj, jj, jj, jj, jj, jj, jj, jj, jj, jj, jj, jj, jj, jj, jj, jj, jj, jj, jj, jj, jj, jj, jj, jj, jj, jj, jj, jj, jj, jj, jj, jj, jj, jj, jj, jj, jj, jj, jj, jj, jj, jj, jj, jj, jj, jj, jj, jj] [] (0 : Nat))) (cellarerref02_Name_res r) (cellarerref02_Name_out r))) t) h (fun t h => ?_) (fun s_494 x491 h491 K491 => ?_)
  ·
    rcases t with t_488 | t_489
    · replace h := W.inl (h)
      refine W.elimL (?_)
      exact (Option.some.inj h).symm
    · replace h := W.inr (h)
      refine W.elimR (?_)
      refine W.cond 0 100000 h (by kernel_rfl) (fun h => ?_) (fun h => ?_)
      ·
        refine W.yes 0 100000 (by kernel_rfl) ?_
        refine W.yes 0 100000 (by kernel_rfl) ?_
        refine W.yes 0 100000 (by kernel_rfl) ?_
        exact W.retT 0 100000 h (by kernel_rfl)
      ·
        refine W.no 0 100000 (by kernel_rfl) ?_
        refine W.no 0 100000 (by kernel_rfl) ?_
        refine W.no 0 100000 (by kernel_rfl) ?_
        exact W.retT 0 100000 h (by kernel_rfl)
  · unfold cellarerref02_Name_b0 at h491
    refine W.cond 2 100000 h491 (by kernel_rfl) (fun h491 => ?_) (fun h491 => ?_)
    ·
      refine W.needT 2 100000 h491 (by kernel_rfl) (fun h491 => ?_)
      refine W.join (fun t_480 => Walk Go.Proofs.Tryd.prog 47 (Cfg.mk Mode.run (seqTodo Go.Proofs.Tryd.prog 47 7) (St.mk [AV.str s_476, jj, jj, AV.int IntKind.i64 s_494, AV.int IntKind.u8 (↑(UInt8.toNat (List.getD s_476 (Int.toNat s_494) (0 : UInt8))) : Int), AV.bool t_480, jj, jj, jj, jj, jj, jj, jj, jj, jj, jj, jj, jj, jj, jj, jj, jj, jj, jj, jj, jj, jj, jj, jj, jj, jj, jj, jj, jj, jj, jj, jj, jj, jj, jj, jj, jj, jj, jj, jj, jj, jj, jj, jj, jj, jj, jj, jj, jj, jj, jj, jj, jj, jj, jj, jj, jj, jj, jj] [] (0 : Nat))) (cellarerref02_Name_res r) (cellarerref02_Name_out r)) h491 (fun t_480 h491 => ?_) (fun t488 h488 K488 => ?_)
      ·
        refine W.join (fun t_482 => Walk Go.Proofs.Tryd.prog 47 (Cfg.mk Mode.run (seqTodo Go.Proofs.Tryd.prog 47 8) (St.mk [AV.str s_476, jj, jj, AV.int IntKind.i64 s_494, AV.int IntKind.u8 (↑(UInt8.toNat (List.getD s_476 (Int.toNat s_494) (0 : UInt8))) : Int), AV.bool t_480, AV.bool t_482, jj, jj, jj, jj, jj, jj, jj, jj, jj, jj, jj, jj, jj, jj, jj, jj, jj, jj, jj, jj, jj, jj, jj, jj, jj, jj, jj, jj, jj, jj, jj, jj, jj, jj, jj, jj, jj, jj, jj, jj, jj, jj, jj, jj, jj, jj, jj, jj, jj, jj, jj, jj, jj, jj, jj, jj, jj] [] (0 : Nat))) (cellarerref02_Name_res r) (cellarerref02_Name_out r)) h491 (fun t_482 h491 => ?_) (fun t487 h487 K487 => ?_)
        ·
          refine W.join (fun t_484 => Walk Go.Proofs.Tryd.prog 47 (Cfg.mk Mode.run (seqTodo Go.Proofs.Tryd.prog 47 9) (St.mk [AV.str s_476, jj, jj, AV.int IntKind.i64 s_494, jj, AV.bool t_480, AV.bool t_482, AV.bool t_484, jj, jj, jj, jj, jj, jj, jj, jj, jj, jj, jj, jj, jj, jj, jj, jj, jj, jj, jj, jj, jj, jj, jj, jj, jj, jj, jj, jj, jj, jj, jj, jj, jj, jj, jj, jj, jj, jj, jj, jj, jj, jj, jj, jj, jj, jj, jj, jj, jj, jj, jj, jj, jj, jj, jj, jj] [] (0 : Nat))) (cellarerref02_Name_res r) (cellarerref02_Name_out r)) h491 (fun t_484 h491 => ?_) (fun t486 h486 K486 => ?_)
          ·
            refine W.cond 2 100000 h491 (by kernel_rfl) (fun h491 => ?_) (fun h491 => ?_)
            ·
              refine W.yes 2 100000 (by kernel_rfl) ?_
              refine W.yes 2 100000 (by kernel_rfl) ?_
              refine W.cond 2 100000 h491 (by kernel_rfl) (fun h491 => ?_) (fun h491 => ?_)
              ·
                refine W.yes 2 100000 (by kernel_rfl) ?_
                refine W.yes 2 100000 (by kernel_rfl) ?_
                refine W.cond 2 100000 h491 (by kernel_rfl) (fun h491 => ?_) (fun h491 => ?_)
                ·
                  refine W.yes 2 100000 (by kernel_rfl) ?_
                  refine W.yes 2 100000 (by kernel_rfl) ?_
                  refine W.yes 2 100000 (by kernel_rfl) ?_
                  refine W.yes 2 100000 (by kernel_rfl) ?_
                  cases h491; exact W.retK 2 100000 K491 (by kernel_rfl)
                ·
                  refine W.no 2 100000 (by kernel_rfl) ?_
                  refine W.cond 2 100000 h491 (by kernel_rfl) (fun h491 => ?_) (fun h491 => ?_)
                  ·
                    refine W.yes 2 100000 (by kernel_rfl) ?_
                    refine W.no 2 100000 (by kernel_rfl) ?_
                    refine W.yes 2 100000 (by kernel_rfl) ?_
                    refine W.no 2 100000 (by kernel_rfl) ?_
                    refine W.cond 2 100000 h491 (by kernel_rfl) (fun h491 => ?_) (fun h491 => ?_)
                    ·
                      cases h491; exact W.retK 2 100000 K491 (by kernel_rfl)
                    ·
                      cases h491; exact W.at 2 100000 [] [0, 3] (by kernel_rfl) K491
                  ·
                    refine W.no 2 100000 (by kernel_rfl) ?_
                    refine W.no 2 100000 (by kernel_rfl) ?_
                    refine W.no 2 100000 (by kernel_rfl) ?_
                    refine W.no 2 100000 (by kernel_rfl) ?_
                    refine W.no 2 100000 (by kernel_rfl) ?_
                    cases h491; exact W.at 2 100000 [] [0, 3] (by kernel_rfl) K491
              ·
                refine W.no 2 100000 (by kernel_rfl) ?_
                refine W.no 2 100000 (by kernel_rfl) ?_
                refine W.no 2 100000 (by kernel_rfl) ?_
                refine W.no 2 100000 (by kernel_rfl) ?_
                refine W.cond 2 100000 h491 (by kernel_rfl) (fun h491 => ?_) (fun h491 => ?_)
                ·
                  refine W.yes 2 100000 (by kernel_rfl) ?_
                  refine W.no 2 100000 (by kernel_rfl) ?_
                  refine W.yes 2 100000 (by kernel_rfl) ?_
                  refine W.no 2 100000 (by kernel_rfl) ?_
                  refine W.cond 2 100000 h491 (by kernel_rfl) (fun h491 => ?_) (fun h491 => ?_)
                  ·
                    cases h491; exact W.retK 2 100000 K491 (by kernel_rfl)
                  ·
                    cases h491; exact W.at 2 100000 [] [0, 3] (by kernel_rfl) K491
                ·
                  refine W.no 2 100000 (by kernel_rfl) ?_
                  refine W.no 2 100000 (by kernel_rfl) ?_
                  refine W.no 2 100000 (by kernel_rfl) ?_
                  refine W.no 2 100000 (by kernel_rfl) ?_
                  refine W.no 2 100000 (by kernel_rfl) ?_
                  cases h491; exact W.at 2 100000 [] [0, 3] (by kernel_rfl) K491
            ·
              refine W.no 2 100000 (by kernel_rfl) ?_
              refine W.no 2 100000 (by kernel_rfl) ?_
              refine W.no 2 100000 (by kernel_rfl) ?_
              refine W.no 2 100000 (by kernel_rfl) ?_
              refine W.no 2 100000 (by kernel_rfl) ?_
              refine W.no 2 100000 (by kernel_rfl) ?_
              refine W.no 2 100000 (by kernel_rfl) ?_
              refine W.cond 2 100000 h491 (by kernel_rfl) (fun h491 => ?_) (fun h491 => ?_)
              ·
                refine W.yes 2 100000 (by kernel_rfl) ?_
                refine W.no 2 100000 (by kernel_rfl) ?_
                refine W.yes 2 100000 (by kernel_rfl) ?_
                refine W.no 2 100000 (by kernel_rfl) ?_
                refine W.cond 2 100000 h491 (by kernel_rfl) (fun h491 => ?_) (fun h491 => ?_)
                ·
                  cases h491; exact W.retK 2 100000 K491 (by kernel_rfl)
                ·
                  cases h491; exact W.at 2 100000 [] [0, 3] (by kernel_rfl) K491
              ·
                refine W.no 2 100000 (by kernel_rfl) ?_
                refine W.no 2 100000 (by kernel_rfl) ?_
                refine W.no 2 100000 (by kernel_rfl) ?_
                refine W.no 2 100000 (by kernel_rfl) ?_
                refine W.no 2 100000 (by kernel_rfl) ?_
                cases h491; exact W.at 2 100000 [] [0, 3] (by kernel_rfl) K491
          · refine W.next 2 1 (by kernel_rfl) ?_
            refine W.cond 6 100000 h486 (by kernel_rfl) (fun h486 => ?_) (fun h486 => ?_)
            ·
              refine W.yes 6 100000 (by kernel_rfl) ?_
              refine W.yes 6 100000 (by kernel_rfl) ?_
              refine W.yes 6 100000 (by kernel_rfl) ?_
              refine W.yes 6 100000 (by kernel_rfl) ?_
              refine W.yes 6 100000 (by kernel_rfl) ?_
              cases h486; exact W.at 6 100000 [] [0, 3, 5, 6, 7] (by kernel_rfl) K486
            ·
              refine W.no 6 100000 (by kernel_rfl) ?_
              refine W.no 6 100000 (by kernel_rfl) ?_
              refine W.cond 6 100000 h486 (by kernel_rfl) (fun h486 => ?_) (fun h486 => ?_)
              ·
                refine W.yes 6 100000 (by kernel_rfl) ?_
                refine W.yes 6 100000 (by kernel_rfl) ?_
                cases h486; exact W.at 6 100000 [] [0, 3, 5, 6, 7] (by kernel_rfl) K486
              ·
                refine W.no 6 100000 (by kernel_rfl) ?_
                refine W.no 6 100000 (by kernel_rfl) ?_
                cases h486; exact W.at 6 100000 [] [0, 3, 5, 6, 7] (by kernel_rfl) K486
        · refine W.next 2 1 (by kernel_rfl) ?_
          refine W.cond 6 100000 h487 (by kernel_rfl) (fun h487 => ?_) (fun h487 => ?_)
          ·
            refine W.yes 6 100000 (by kernel_rfl) ?_
            refine W.yes 6 100000 (by kernel_rfl) ?_
            cases h487; exact W.at 6 100000 [] [0, 3, 4, 5, 6] (by kernel_rfl) K487
          ·
            refine W.no 6 100000 (by kernel_rfl) ?_
            refine W.no 6 100000 (by kernel_rfl) ?_
            cases h487; exact W.at 6 100000 [] [0, 3, 4, 5, 6] (by kernel_rfl) K487
      · refine W.next 2 3 (by kernel_rfl) ?_
        refine W.cond 6 100000 h488 (by kernel_rfl) (fun h488 => ?_) (fun h488 => ?_)
        ·
          refine W.yes 6 100000 (by kernel_rfl) ?_
          refine W.yes 6 100000 (by kernel_rfl) ?_
          cases h488; exact W.at 6 100000 [] [0, 3, 4, 5] (by kernel_rfl) K488
        ·
          refine W.no 6 100000 (by kernel_rfl) ?_
          refine W.no 6 100000 (by kernel_rfl) ?_
          cases h488; exact W.at 6 100000 [] [0, 3, 4, 5] (by kernel_rfl) K488
    ·
      cases h491; exact W.at 2 100000 [] [0] (by kernel_rfl) K491

theorem cellarerref07_Right_con {x_496 : List UInt8} {x_497 : List UInt8} {x_498 : List UInt8} {r : Bool} (h : cellarerref07_Right x_496 x_497 x_498 = some r) : Con Go.Proofs.Tryd.prog 40 [AV.agg [AV.str x_496, AV.str x_497, AV.str x_498]] [] (cellarerref07_Right_res r) (cellarerref07_Right_out r) := by
  refine W.con (by kernel_rfl) ?_
  unfold cellarerref07_Right at h
  refine W.bind h fun a_499 ha_499 h => ?_
  refine W.call 0 100000 (by kernel_rfl) (cellarerref02_Name_con ha_499) (by kernel_rfl) ?_
  refine W.cond 0 100000 h (by kernel_rfl) (fun h => ?_) (fun h => ?_)
  ·
    exact W.retT 0 100000 h (by kernel_rfl)
  ·
    refine W.cond 0 100000 h (by kernel_rfl) (fun h => ?_) (fun h => ?_)
    ·
      exact W.retT 0 100000 h (by kernel_rfl)
    ·
      refine W.bind h fun a_500 ha_500 h => ?_
      refine W.call 0 100000 (by kernel_rfl) (cellarerref05_Parse_con ha_500) (by kernel_rfl) ?_
      refine W.cond 0 100000 h (by kernel_rfl) (fun h => ?_) (fun h => ?_)
      ·
        refine W.yes 0 100000 (by kernel_rfl) ?_
        refine W.yes 0 100000 (by kernel_rfl) ?_
        refine W.yes 0 100000 (by kernel_rfl) ?_
        refine W.yes 0 100000 (by kernel_rfl) ?_
        refine W.yes 0 100000 (by kernel_rfl) ?_
        refine W.yes 0 100000 (by kernel_rfl) ?_
        refine W.yes 0 100000 (by kernel_rfl) ?_
        refine W.yes 0 100000 (by kernel_rfl) ?_
        refine W.yes 0 100000 (by kernel_rfl) ?_
        refine W.yes 0 100000 (by kernel_rfl) ?_
        refine W.yes 0 100000 (by kernel_rfl) ?_
        refine W.yes 0 100000 (by kernel_rfl) ?_
        refine W.yes 0 100000 (by kernel_rfl) ?_
        refine W.yes 0 100000 (by kernel_rfl) ?_
        refine W.yes 0 100000 (by kernel_rfl) ?_
        refine W.yes 0 100000 (by kernel_rfl) ?_
        refine W.yes 0 100000 (by kernel_rfl) ?_
        refine W.yes 0 100000 (by kernel_rfl) ?_
        exact W.retT 0 100000 h (by kernel_rfl)
      ·
        refine W.no 0 100000 (by kernel_rfl) ?_
        refine W.no 0 100000 (by kernel_rfl) ?_
        refine W.no 0 100000 (by kernel_rfl) ?_
        refine W.cond 0 100000 h (by kernel_rfl) (fun h => ?_) (fun h => ?_)
        ·
          refine W.yes 0 100000 (by kernel_rfl) ?_
          refine W.yes 0 100000 (by kernel_rfl) ?_
          refine W.yes 0 100000 (by kernel_rfl) ?_
          refine W.yes 0 100000 (by kernel_rfl) ?_
          refine W.yes 0 100000 (by kernel_rfl) ?_
          refine W.yes 0 100000 (by kernel_rfl) ?_
          refine W.yes 0 100000 (by kernel_rfl) ?_
          refine W.yes 0 100000 (by kernel_rfl) ?_
          refine W.yes 0 100000 (by kernel_rfl) ?_
          refine W.yes 0 100000 (by kernel_rfl) ?_
          refine W.yes 0 100000 (by kernel_rfl) ?_
          refine W.yes 0 100000 (by kernel_rfl) ?_
          refine W.yes 0 100000 (by kernel_rfl) ?_
          refine W.yes 0 100000 (by kernel_rfl) ?_
          exact W.retT 0 100000 h (by kernel_rfl)
        ·
          refine W.no 0 100000 (by kernel_rfl) ?_
          refine W.no 0 100000 (by kernel_rfl) ?_
          refine W.no 0 100000 (by kernel_rfl) ?_
          refine W.cond 0 100000 h (by kernel_rfl) (fun h => ?_) (fun h => ?_)
          ·
            refine W.yes 0 100000 (by kernel_rfl) ?_
            refine W.yes 0 100000 (by kernel_rfl) ?_
            refine W.yes 0 100000 (by kernel_rfl) ?_
            refine W.yes 0 100000 (by kernel_rfl) ?_
            refine W.yes 0 100000 (by kernel_rfl) ?_
            refine W.yes 0 100000 (by kernel_rfl) ?_
            refine W.yes 0 100000 (by kernel_rfl) ?_
            refine W.yes 0 100000 (by kernel_rfl) ?_
            refine W.yes 0 100000 (by kernel_rfl) ?_
            refine W.yes 0 100000 (by kernel_rfl) ?_
            exact W.retT 0 100000 h (by kernel_rfl)
          ·
            refine W.no 0 100000 (by kernel_rfl) ?_
            refine W.no 0 100000 (by kernel_rfl) ?_
            refine W.no 0 100000 (by kernel_rfl) ?_
            refine W.cond 0 100000 h (by kernel_rfl) (fun h => ?_) (fun h => ?_)
            ·
              refine W.yes 0 100000 (by kernel_rfl) ?_
              refine W.yes 0 100000 (by kernel_rfl) ?_
              refine W.yes 0 100000 (by kernel_rfl) ?_
              refine W.yes 0 100000 (by kernel_rfl) ?_
              refine W.yes 0 100000 (by kernel_rfl) ?_
              refine W.yes 0 100000 (by kernel_rfl) ?_
              exact W.retT 0 100000 h (by kernel_rfl)
            ·
              refine W.no 0 100000 (by kernel_rfl) ?_
              refine W.no 0 100000 (by kernel_rfl) ?_
              refine W.no 0 100000 (by kernel_rfl) ?_
              refine W.cond 0 100000 h (by kernel_rfl) (fun h => ?_) (fun h => ?_)
              ·
                refine W.yes 0 100000 (by kernel_rfl) ?_
                refine W.yes 0 100000 (by kernel_rfl) ?_
                exact W.retT 0 100000 h (by kernel_rfl)
              ·
                refine W.no 0 100000 (by kernel_rfl) ?_
                refine W.no 0 100000 (by kernel_rfl) ?_
                exact W.retT 0 100000 h (by kernel_rfl)

theorem cellarerref07_Text_con {x_504 : List UInt8} {x_505 : List UInt8} {x_506 : List UInt8} {r : List UInt8} (h : cellarerref07_Text x_504 x_505 x_506 = some r) : Con Go.Proofs.Tryd.prog 41 [AV.agg [AV.str x_504, AV.str x_505, AV.str x_506]] [] (cellarerref07_Text_res r) (cellarerref07_Text_out r) := by
  refine W.con (by kernel_rfl) ?_
  unfold cellarerref07_Text at h
  refine W.cond 0 100000 h (by kernel_rfl) (fun h => ?_) (fun h => ?_)
  ·
    exact W.retT 0 100000 h (by kernel_rfl)
  ·
    refine W.needT 0 100000 h (by kernel_rfl) (fun h => ?_)
    refine W.needT 0 100000 h (by kernel_rfl) (fun h => ?_)
    refine W.needT 0 100000 h (by kernel_rfl) (fun h => ?_)
    refine W.needT 0 100000 h (by kernel_rfl) (fun h => ?_)
    refine W.needT 0 100000 h (by kernel_rfl) (fun h => ?_)
    exact W.retT 0 100000 h (by kernel_rfl)

theorem cellarerref06_Join_con {l_511 : List (List UInt8)} {between_512 : List UInt8} {r : List UInt8} (h : cellarerref06_Join l_511 between_512 = some r) : Con Go.Proofs.Tryd.prog 42 [AV.list Ty.str l_511 Bool.false, AV.str between_512] [] (cellarerref06_Join_res r) (cellarerref06_Join_out r) := by
  refine W.con (by kernel_rfl) ?_
  unfold cellarerref06_Join at h
  refine W.at 0 100000 [] [0, 1, 5, 6] (c' := (fun (s_526 : List UInt8 × Int) => (Cfg.mk Mode.run (headTodo Go.Proofs.Tryd.prog 42 0) (St.mk [AV.list Ty.str l_511 Bool.false, AV.str between_512, jj, jj, jj, AV.str (Prod.fst s_526), AV.int IntKind.i64 (Prod.snd s_526), jj, jj, jj, jj, jj, jj, jj, jj, jj, jj, jj, jj, jj, jj, jj, jj, jj, jj] [] (0 : Nat)))) ([], (0 : Int))) (by kernel_rfl) ?_
  refine W.loop (fun (s_526 : List UInt8 × Int) => (Cfg.mk Mode.run (headTodo Go.Proofs.Tryd.prog 42 0) (St.mk [AV.list Ty.str l_511 Bool.false, AV.str between_512, jj, jj, jj, AV.str (Prod.fst s_526), AV.int IntKind.i64 (Prod.snd s_526), jj, jj, jj, jj, jj, jj, jj, jj, jj, jj, jj, jj, jj, jj, jj, jj, jj, jj] [] (0 : Nat)))) (fun t_521 => Walk Go.Proofs.Tryd.prog 42 (Cfg.mk Mode.run ((headTodo Go.Proofs.Tryd.prog 42 0).drop 3) (St.mk [jj, jj, jj, jj, jj, AV.str t_521, jj, jj, jj, jj, jj, jj, jj, jj, jj, jj, jj, jj, jj, jj, jj, jj, jj, jj, jj] [] (0 : Nat))) (cellarerref06_Join_res r) (cellarerref06_Join_out r)) h (fun t_521 h => ?_) (fun s_526 x523 h523 K523 => ?_)
  ·
    exact W.retT 0 100000 h (by kernel_rfl)
  · unfold cellarerref06_Join_b0 at h523
    refine W.cond 2 100000 h523 (by kernel_rfl) (fun h523 => ?_) (fun h523 => ?_)
    ·
      refine W.join (fun t_518 => Walk Go.Proofs.Tryd.prog 42 (Cfg.mk Mode.run (seqTodo Go.Proofs.Tryd.prog 42 7) (St.mk [AV.list Ty.str l_511 Bool.false, AV.str between_512, jj, jj, jj, AV.str t_518, AV.int IntKind.i64 (Prod.snd s_526), jj, jj, jj, jj, jj, jj, jj, jj, jj, jj, jj, jj, jj, jj, jj, jj, jj, jj] [] (0 : Nat))) (cellarerref06_Join_res r) (cellarerref06_Join_out r)) h523 (fun t_518 h523 => ?_) (fun t520 h520 K520 => ?_)
      ·
        refine W.needT 2 100000 h523 (by kernel_rfl) (fun h523 => ?_)
        refine W.needT 2 100000 h523 (by kernel_rfl) (fun h523 => ?_)
        cases h523; exact W.at 2 100000 [] [0, 1, 5, 6] (by kernel_rfl) K523
      · refine W.next 2 4 (by kernel_rfl) ?_
        refine W.cond 6 100000 h520 (by kernel_rfl) (fun h520 => ?_) (fun h520 => ?_)
        ·
          refine W.needT 6 100000 h520 (by kernel_rfl) (fun h520 => ?_)
          cases h520; exact W.at 6 100000 [] [0, 1, 5, 6] (by kernel_rfl) K520
        ·
          cases h520; exact W.at 6 100000 [] [0, 1, 5, 6] (by kernel_rfl) K520
    ·
      cases h523; exact W.at 2 100000 [] [5] (by kernel_rfl) K523

theorem cellarerref07_Fits_con {x_530 : List UInt8} {x_531 : List UInt8} {x_532 : List UInt8} {name_533 : List UInt8} {v_534 : List UInt8} {r : Bool} (h : cellarerref07_Fits x_530 x_531 x_532 name_533 v_534 = some r) : Con Go.Proofs.Tryd.prog 33 [AV.agg [AV.str x_530, AV.str x_531, AV.str x_532], AV.str name_533, AV.str v_534] [] (cellarerref07_Fits_res r) (cellarerref07_Fits_out r) := by
  refine W.con (by kernel_rfl) ?_
  unfold cellarerref07_Fits at h
  refine W.cond 0 100000 h (by kernel_rfl) (fun h => ?_) (fun h => ?_)
  ·
    refine W.yes 0 100000 (by kernel_rfl) ?_
    refine W.yes 0 100000 (by kernel_rfl) ?_
    refine W.yes 0 100000 (by kernel_rfl) ?_
    refine W.yes 0 100000 (by kernel_rfl) ?_
    refine W.yes 0 100000 (by kernel_rfl) ?_
    refine W.bind h fun a_535 ha_535 h => ?_
    refine W.call 0 100000 (by kernel_rfl) (cellarerref05_Holds_con ha_535) (by kernel_rfl) ?_
    refine W.yes 0 100000 (by kernel_rfl) ?_
    exact W.retT 0 100000 h (by kernel_rfl)
  ·
    refine W.no 0 100000 (by kernel_rfl) ?_
    refine W.no 0 100000 (by kernel_rfl) ?_
    refine W.no 0 100000 (by kernel_rfl) ?_
    refine W.no 0 100000 (by kernel_rfl) ?_
    refine W.no 0 100000 (by kernel_rfl) ?_
    refine W.no 0 100000 (by kernel_rfl) ?_
    exact W.retT 0 100000 h (by kernel_rfl)

theorem relation_Fits_con {x_541 : List UInt8} {x_542 : List UInt8} {x_543 : List UInt8} {name_544 : List UInt8} {v_545 : List UInt8} {r : Bool} (h : relation_Fits x_541 x_542 x_543 name_544 v_545 = some r) : Con Go.Proofs.Tryd.prog 39 [AV.agg [AV.str x_541, AV.str x_542, AV.str x_543], AV.str name_544, AV.str v_545] [] (relation_Fits_res r) (relation_Fits_out r) := by
  refine W.con (by kernel_rfl) ?_
  unfold relation_Fits at h
  refine W.cond 0 100000 h (by kernel_rfl) (fun h => ?_) (fun h => ?_)
  ·
    refine W.yes 0 100000 (by kernel_rfl) ?_
    refine W.yes 0 100000 (by kernel_rfl) ?_
    refine W.yes 0 100000 (by kernel_rfl) ?_
    refine W.yes 0 100000 (by kernel_rfl) ?_
    refine W.yes 0 100000 (by kernel_rfl) ?_
    refine W.bind h fun a_546 ha_546 h => ?_
    refine W.call 0 100000 (by kernel_rfl) (version_Holds_con ha_546) (by kernel_rfl) ?_
    refine W.yes 0 100000 (by kernel_rfl) ?_
    exact W.retT 0 100000 h (by kernel_rfl)
  ·
    refine W.no 0 100000 (by kernel_rfl) ?_
    refine W.no 0 100000 (by kernel_rfl) ?_
    refine W.no 0 100000 (by kernel_rfl) ?_
    refine W.no 0 100000 (by kernel_rfl) ?_
    refine W.no 0 100000 (by kernel_rfl) ?_
    refine W.no 0 100000 (by kernel_rfl) ?_
    exact W.retT 0 100000 h (by kernel_rfl)

theorem relation_met_con {g_551 : List (List UInt8 × List UInt8 × List UInt8)} {there_552 : List (List UInt8 × List UInt8 × List UInt8)} {r : Bool} (h : relation_met g_551 there_552 = some r) : Con Go.Proofs.Tryd.prog 32 [AV.list (Ty.prod Ty.str (Ty.prod Ty.str Ty.str)) g_551 Bool.false, AV.list (Ty.prod Ty.str (Ty.prod Ty.str Ty.str)) there_552 Bool.false] [] (relation_met_res r) (relation_met_out r) := by
  refine W.con (by kernel_rfl) ?_
  unfold relation_met at h
  refine W.at 0 100000 [] [1, 9, 10, 11] (c' := (fun (s_578 : Int) => (Cfg.mk Mode.run (headTodo Go.Proofs.Tryd.prog 32 0) (St.mk [jj, AV.list (Ty.prod Ty.str (Ty.prod Ty.str Ty.str)) there_552 Bool.false, jj, jj, jj, jj, jj, jj, jj, AV.list (Ty.prod Ty.str (Ty.prod Ty.str Ty.str)) g_551 Bool.false, AV.int IntKind.i64 (↑(List.length g_551) : Int), AV.int IntKind.i64 s_578, jj, jj, jj, jj, jj, jj, jj, jj, jj, jj, jj, jj, jj, jj, jj, jj, jj] [] (0 : Nat)))) ((0 : Int))) (by kernel_rfl) ?_
  refine W.loop (fun (s_578 : Int) => (Cfg.mk Mode.run (headTodo Go.Proofs.Tryd.prog 32 0) (St.mk [jj, AV.list (Ty.prod Ty.str (Ty.prod Ty.str Ty.str)) there_552 Bool.false, jj, jj, jj, jj, jj, jj, jj, AV.list (Ty.prod Ty.str (Ty.prod Ty.str Ty.str)) g_551 Bool.false, AV.int IntKind.i64 (↑(List.length g_551) : Int), AV.int IntKind.i64 s_578, jj, jj, jj, jj, jj, jj, jj, jj, jj, jj, jj, jj, jj, jj, jj, jj, jj] [] (0 : Nat)))) (fun t => (Sum.elim (fun t_571 => r = (Bool.true)) (fun t_572 => Walk Go.Proofs.Tryd.prog 32 (Cfg.mk Mode.run ((headTodo Go.Proofs.Tryd.prog 32 0).drop 3) (St.mk [jj, jj, jj, jj, jj, jj, jj, jj, jj, jj, jj, jj, jj, jj, jj, jj, jj, jj, jj, jj, jj, jj, jj, jj, jj, jj, jj, jj, jj] [] (0 : Nat))) (relation_met_res r) (relation_met_out r))) t) h (fun t h => ?_) (fun s_578 x574 h574 K574 => ?_)
  ·
    rcases t with t_571 | t_572
    · replace h := W.inl (h)
      refine W.elimL (?_)
      exact (Option.some.inj h).symm
    · replace h := W.inr (h)
      refine W.elimR (?_)
      exact W.retT 0 100000 h (by kernel_rfl)
  · unfold relation_met_b1 at h574
    refine W.cond 2 100000 h574 (by kernel_rfl) (fun h574 => ?_) (fun h574 => ?_)
    ·
      refine W.needT 2 100000 h574 (by kernel_rfl) (fun h574 => ?_)
      refine W.at 2 100000 [] [1, 6, 9, 10, 11, 15, 16, 17] (c' := (fun (s_579 : Int) => (Cfg.mk Mode.run (headTodo Go.Proofs.Tryd.prog 32 1) (St.mk [jj, AV.list (Ty.prod Ty.str (Ty.prod Ty.str Ty.str)) there_552 Bool.false, jj, jj, jj, jj, AV.ptr (0 : Nat) (0 : Nat), jj, jj, AV.list (Ty.prod Ty.str (Ty.prod Ty.str Ty.str)) g_551 Bool.false, AV.int IntKind.i64 (↑(List.length g_551) : Int), AV.int IntKind.i64 s_578, jj, jj, jj, AV.list (Ty.prod Ty.str (Ty.prod Ty.str Ty.str)) there_552 Bool.false, AV.int IntKind.i64 (↑(List.length there_552) : Int), AV.int IntKind.i64 s_579, jj, jj, jj, jj, jj, jj, jj, jj, jj, jj, jj] [AO.box [AV.str (Prod.fst (List.getD g_551 (Int.toNat s_578) ([], [], []))), AV.str (Prod.fst (Prod.snd (List.getD g_551 (Int.toNat s_578) ([], [], [])))), AV.str (Prod.snd (Prod.snd (List.getD g_551 (Int.toNat s_578) ([], [], []))))]] (0 : Nat)))) ((0 : Int))) (by kernel_rfl) ?_
      refine W.loop (fun (s_579 : Int) => (Cfg.mk Mode.run (headTodo Go.Proofs.Tryd.prog 32 1) (St.mk [jj, AV.list (Ty.prod Ty.str (Ty.prod Ty.str Ty.str)) there_552 Bool.false, jj, jj, jj, jj, AV.ptr (0 : Nat) (0 : Nat), jj, jj, AV.list (Ty.prod Ty.str (Ty.prod Ty.str Ty.str)) g_551 Bool.false, AV.int IntKind.i64 (↑(List.length g_551) : Int), AV.int IntKind.i64 s_578, jj, jj, jj, AV.list (Ty.prod Ty.str (Ty.prod Ty.str Ty.str)) there_552 Bool.false, AV.int IntKind.i64 (↑(List.length there_552) : Int), AV.int IntKind.i64 s_579, jj, jj, jj, jj, jj, jj, jj, jj, jj, jj, jj] [AO.box [AV.str (Prod.fst (List.getD g_551 (Int.toNat s_578) ([], [], []))), AV.str (Prod.fst (Prod.snd (List.getD g_551 (Int.toNat s_578) ([], [], [])))), AV.str (Prod.snd (Prod.snd (List.getD g_551 (Int.toNat s_578) ([], [], []))))]] (0 : Nat)))) (fun t => (Sum.elim (fun t_568 => r = (Bool.true)) (fun t_569 => Walk Go.Proofs.Tryd.prog 32 (Cfg.mk Mode.run ((headTodo Go.Proofs.Tryd.prog 32 1).drop 3) (St.mk [jj, AV.list (Ty.prod Ty.str (Ty.prod Ty.str Ty.str)) there_552 Bool.false, jj, jj, jj, jj, jj, jj, jj, AV.list (Ty.prod Ty.str (Ty.prod Ty.str Ty.str)) g_551 Bool.false, AV.int IntKind.i64 (↑(List.length g_551) : Int), AV.int IntKind.i64 s_578, jj, jj, jj, jj, jj, jj, jj, jj, jj, jj, jj, jj, jj, jj, jj, jj, jj] [] (0 : Nat))) (relation_met_res r) (relation_met_out r))) t) h574 (fun t h574 => ?_) (fun s_579 x571 h571 K571 => ?_)
      ·
        rcases t with t_568 | t_569
        · replace h574 := W.inl (h574)
          refine W.elimL (?_)
          cases h574; exact K574
        · replace h574 := W.inr (h574)
          refine W.elimR (?_)
          cases h574; exact W.at 2 100000 [] [1, 9, 10, 11] (by kernel_rfl) K574
      · unfold relation_met_b0 at h571
        refine W.cond 6 100000 h571 (by kernel_rfl) (fun h571 => ?_) (fun h571 => ?_)
        ·
          refine W.needT 6 100000 h571 (by kernel_rfl) (fun h571 => ?_)
          refine W.bind h571 fun a_567 ha_567 h571 => ?_
          refine W.call 6 100000 (by kernel_rfl) (relation_Fits_con ha_567) (by kernel_rfl) ?_
          refine W.cond 6 100000 h571 (by kernel_rfl) (fun h571 => ?_) (fun h571 => ?_)
          ·
            cases h571; exact W.retK 6 100000 K571 (by kernel_rfl)
          ·
            cases h571; exact W.at 6 100000 [] [1, 6, 9, 10, 11, 15, 16, 17] (by kernel_rfl) K571
        ·
          cases h571; exact W.at 6 100000 [] [1, 9, 10, 11] (by kernel_rfl) K571
    ·
      cases h574; exact W.at 2 100000 [] [] (by kernel_rfl) K574

theorem relation_Lacks_con {l_582 : List (List (List UInt8 × List UInt8 × List UInt8))} {there_583 : List (List UInt8 × List UInt8 × List UInt8)} {r : List Int} (h : relation_Lacks l_582 there_583 = some r) : Con Go.Proofs.Tryd.prog 24 [AV.list (Ty.list (Ty.prod Ty.str (Ty.prod Ty.str Ty.str))) l_582 Bool.false, AV.list (Ty.prod Ty.str (Ty.prod Ty.str Ty.str)) there_583 Bool.false] [] (relation_Lacks_res r) (relation_Lacks_out r) := by
  refine W.con (by kernel_rfl) ?_
  unfold relation_Lacks at h
  refine W.at 0 100000 [Co.own 5 (Ty.int IntKind.i64)] [1, 5, 8, 9, 10] (c' := (fun (s_601 : Int × List Int) => (Cfg.mk Mode.run (headTodo Go.Proofs.Tryd.prog 24 0) (St.mk [jj, AV.list (Ty.prod Ty.str (Ty.prod Ty.str Ty.str)) there_583 Bool.false, jj, jj, jj, AV.view (0 : Nat) (0 : Nat) Option.none, jj, jj, AV.list (Ty.list (Ty.prod Ty.str (Ty.prod Ty.str Ty.str))) l_582 Bool.false, AV.int IntKind.i64 (↑(List.length l_582) : Int), AV.int IntKind.i64 (Prod.fst s_601), jj, jj, jj, jj, jj, jj, jj, jj, jj, jj, jj, jj, jj, jj] [AO.row (Ty.int IntKind.i64) (Prod.snd s_601)] (0 : Nat)))) ((0 : Int), [])) (by kernel_rfl) ?_
  refine W.loop (fun (s_601 : Int × List Int) => (Cfg.mk Mode.run (headTodo Go.Proofs.Tryd.prog 24 0) (St.mk [jj, AV.list (Ty.prod Ty.str (Ty.prod Ty.str Ty.str)) there_583 Bool.false, jj, jj, jj, AV.view (0 : Nat) (0 : Nat) Option.none, jj, jj, AV.list (Ty.list (Ty.prod Ty.str (Ty.prod Ty.str Ty.str))) l_582 Bool.false, AV.int IntKind.i64 (↑(List.length l_582) : Int), AV.int IntKind.i64 (Prod.fst s_601), jj, jj, jj, jj, jj, jj, jj, jj, jj, jj, jj, jj, jj, jj] [AO.row (Ty.int IntKind.i64) (Prod.snd s_601)] (0 : Nat)))) (fun t_596 => Walk Go.Proofs.Tryd.prog 24 (Cfg.mk Mode.run ((headTodo Go.Proofs.Tryd.prog 24 0).drop 3) (St.mk [jj, jj, jj, jj, jj, AV.view (0 : Nat) (0 : Nat) Option.none, jj, jj, jj, jj, jj, jj, jj, jj, jj, jj, jj, jj, jj, jj, jj, jj, jj, jj, jj] [AO.row (Ty.int IntKind.i64) t_596] (0 : Nat))) (relation_Lacks_res r) (relation_Lacks_out r)) h (fun t_596 h => ?_) (fun s_601 x598 h598 K598 => ?_)
  ·
    exact W.retT 0 100000 h (by kernel_rfl)
  · unfold relation_Lacks_b0 at h598
    refine W.cond 2 100000 h598 (by kernel_rfl) (fun h598 => ?_) (fun h598 => ?_)
    ·
      refine W.needT 2 100000 h598 (by kernel_rfl) (fun h598 => ?_)
      refine W.bind h598 fun a_594 ha_594 h598 => ?_
      refine W.call 2 100000 (by kernel_rfl) (relation_met_con ha_594) (by kernel_rfl) ?_
      refine W.cond 2 100000 h598 (by kernel_rfl) (fun h598 => ?_) (fun h598 => ?_)
      ·
        refine W.needT 2 100000 h598 (by kernel_rfl) (fun h598 => ?_)
        cases h598; exact W.at 2 100000 [Co.own 5 (Ty.int IntKind.i64)] [1, 5, 8, 9, 10] (by kernel_rfl) K598
      ·
        cases h598; exact W.at 2 100000 [Co.own 5 (Ty.int IntKind.i64)] [1, 5, 8, 9, 10] (by kernel_rfl) K598
    ·
      cases h598; exact W.at 2 100000 [] [5] (by kernel_rfl) K598

theorem cellarerref07_Lacks_con {l_604 : List (List (List UInt8 × List UInt8 × List UInt8))} {there_605 : List (List UInt8 × List UInt8 × List UInt8)} {r : List Int} (h : cellarerref07_Lacks l_604 there_605 = some r) : Con Go.Proofs.Tryd.prog 25 [AV.list (Ty.list (Ty.prod Ty.str (Ty.prod Ty.str Ty.str))) l_604 Bool.false, AV.list (Ty.prod Ty.str (Ty.prod Ty.str Ty.str)) there_605 Bool.false] [] (cellarerref07_Lacks_res r) (cellarerref07_Lacks_out r) := by
  refine W.con (by kernel_rfl) ?_
  unfold cellarerref07_Lacks at h
  refine W.at 0 100000 [Co.own 5 (Ty.int IntKind.i64)] [0, 1, 5, 6] (c' := (fun (s_659 : Int × List Int) => (Cfg.mk Mode.run (headTodo Go.Proofs.Tryd.prog 25 0) (St.mk [AV.list (Ty.list (Ty.prod Ty.str (Ty.prod Ty.str Ty.str))) l_604 Bool.false, AV.list (Ty.prod Ty.str (Ty.prod Ty.str Ty.str)) there_605 Bool.false, jj, jj, jj, AV.view (0 : Nat) (0 : Nat) Option.none, AV.int IntKind.i64 (Prod.fst s_659), jj, jj, jj, jj, jj, jj, jj, jj, jj, jj, jj, jj, jj, jj, jj, jj, jj, jj, jj, jj, jj, jj, jj, jj, jj, jj, jj, jj, jj, jj, jj, jj, jj, jj, jj, jj, jj, jj, jj, jj, jj, jj, jj, jj, jj, jj, jj, jj, jj, jj, jj, jj] [AO.row (Ty.int IntKind.i64) (Prod.snd s_659)] (0 : Nat)))) ((0 : Int), [])) (by kernel_rfl) ?_
  refine W.loop (fun (s_659 : Int × List Int) => (Cfg.mk Mode.run (headTodo Go.Proofs.Tryd.prog 25 0) (St.mk [AV.list (Ty.list (Ty.prod Ty.str (Ty.prod Ty.str Ty.str))) l_604 Bool.false, AV.list (Ty.prod Ty.str (Ty.prod Ty.str Ty.str)) there_605 Bool.false, jj, jj, jj, AV.view (0 : Nat) (0 : Nat) Option.none, AV.int IntKind.i64 (Prod.fst s_659), jj, jj, jj, jj, jj, jj, jj, jj, jj, jj, jj, jj, jj, jj, jj, jj, jj, jj, jj, jj, jj, jj, jj, jj, jj, jj, jj, jj, jj, jj, jj, jj, jj, jj, jj, jj, jj, jj, jj, jj, jj, jj, jj, jj, jj, jj, jj, jj, jj, jj, jj, jj] [AO.row (Ty.int IntKind.i64) (Prod.snd s_659)] (0 : Nat)))) (fun t_652 => Walk Go.Proofs.Tryd.prog 25 (Cfg.mk Mode.run ((headTodo Go.Proofs.Tryd.prog 25 0).drop 3) (St.mk [jj, jj, jj, jj, jj, AV.view (0 : Nat) (0 : Nat) Option.none, jj, jj, jj, jj, jj, jj, jj, jj, jj, jj, jj, jj, jj, jj, jj, jj, jj, jj, jj, jj, jj, jj, jj, jj, jj, jj, jj, jj, jj, jj, jj, jj, jj, jj, jj, jj, jj, jj, jj, jj, jj, jj, jj, jj, jj, jj, jj, jj, jj, jj, jj, jj, jj] [AO.row (Ty.int IntKind.i64) t_652] (0 : Nat))) (cellarerref07_Lacks_res r) (cellarerref07_Lacks_out r)) h (fun t_652 h => ?_) (fun s_659 x654 h654 K654 => ?_)
  ·
    exact W.retT 0 100000 h (by kernel_rfl)
  · unfold cellarerref07_Lacks_b2 at h654
    refine W.cond 2 100000 h654 (by kernel_rfl) (fun h654 => ?_) (fun h654 => ?_)
    ·
      refine W.at 2 100000 [] [0, 1, 5, 6, 7, 8] (c' := (fun (s_660 : Bool × Int) => (Cfg.mk Mode.run (headTodo Go.Proofs.Tryd.prog 25 1) (St.mk [AV.list (Ty.list (Ty.prod Ty.str (Ty.prod Ty.str Ty.str))) l_604 Bool.false, AV.list (Ty.prod Ty.str (Ty.prod Ty.str Ty.str)) there_605 Bool.false, jj, jj, jj, AV.view (0 : Nat) (0 : Nat) Option.none, AV.int IntKind.i64 (Prod.fst s_659), AV.bool (Prod.fst s_660), AV.int IntKind.i64 (Prod.snd s_660), jj, jj, jj, jj, jj, jj, jj, jj, jj, jj, jj, jj, jj, jj, jj, jj, jj, jj, jj, jj, jj, jj, jj, jj, jj, jj, jj, jj, jj, jj, jj, jj, jj, jj, jj, jj, jj, jj, jj, jj, jj, jj, jj, jj, jj, jj, jj, jj, jj, jj] [AO.row (Ty.int IntKind.i64) (Prod.snd s_659)] (0 : Nat)))) (Bool.false, (0 : Int))) (by kernel_rfl) ?_
      refine W.loop (fun (s_660 : Bool × Int) => (Cfg.mk Mode.run (headTodo Go.Proofs.Tryd.prog 25 1) (St.mk [AV.list (Ty.list (Ty.prod Ty.str (Ty.prod Ty.str Ty.str))) l_604 Bool.false, AV.list (Ty.prod Ty.str (Ty.prod Ty.str Ty.str)) there_605 Bool.false, jj, jj, jj, AV.view (0 : Nat) (0 : Nat) Option.none, AV.int IntKind.i64 (Prod.fst s_659), AV.bool (Prod.fst s_660), AV.int IntKind.i64 (Prod.snd s_660), jj, jj, jj, jj, jj, jj, jj, jj, jj, jj, jj, jj, jj, jj, jj, jj, jj, jj, jj, jj, jj, jj, jj, jj, jj, jj, jj, jj, jj, jj, jj, jj, jj, jj, jj, jj, jj, jj, jj, jj, jj, jj, jj, jj, jj, jj, jj, jj, jj, jj] [AO.row (Ty.int IntKind.i64) (Prod.snd s_659)] (0 : Nat)))) (fun t_649 => Walk Go.Proofs.Tryd.prog 25 (Cfg.mk Mode.run ((headTodo Go.Proofs.Tryd.prog 25 1).drop 3) (St.mk [AV.list (Ty.list (Ty.prod Ty.str (Ty.prod Ty.str Ty.str))) l_604 Bool.false, AV.list (Ty.prod Ty.str (Ty.prod Ty.str Ty.str)) there_605 Bool.false, jj, jj, jj, AV.view (0 : Nat) (0 : Nat) Option.none, AV.int IntKind.i64 (Prod.fst s_659), AV.bool t_649, jj, jj, jj, jj, jj, jj, jj, jj, jj, jj, jj, jj, jj, jj, jj, jj, jj, jj, jj, jj, jj, jj, jj, jj, jj, jj, jj, jj, jj, jj, jj, jj, jj, jj, jj, jj, jj, jj, jj, jj, jj, jj, jj, jj, jj, jj, jj, jj, jj, jj, jj] [AO.row (Ty.int IntKind.i64) (Prod.snd s_659)] (0 : Nat))) (cellarerref07_Lacks_res r) (cellarerref07_Lacks_out r)) h654 (fun t_649 h654 => ?_) (fun s_660 x651 h651 K651 => ?_)
      ·
        refine W.cond 2 100000 h654 (by kernel_rfl) (fun h654 => ?_) (fun h654 => ?_)
        ·
          refine W.needT 2 100000 h654 (by kernel_rfl) (fun h654 => ?_)
          cases h654; exact W.at 2 100000 [Co.own 5 (Ty.int IntKind.i64)] [0, 1, 5, 6] (by kernel_rfl) K654
        ·
          cases h654; exact W.at 2 100000 [Co.own 5 (Ty.int IntKind.i64)] [0, 1, 5, 6] (by kernel_rfl) K654
      · unfold cellarerref07_Lacks_b1 at h651
        refine W.needT 7 100000 h651 (by kernel_rfl) (fun h651 => ?_)
        refine W.cond 7 100000 h651 (by kernel_rfl) (fun h651 => ?_) (fun h651 => ?_)
        ·
          refine W.at 7 100000 [] [0, 1, 5, 6, 7, 8, 9] (c' := (fun (s_661 : Bool × Int) => (Cfg.mk Mode.run (headTodo Go.Proofs.Tryd.prog 25 2) (St.mk [AV.list (Ty.list (Ty.prod Ty.str (Ty.prod Ty.str Ty.str))) l_604 Bool.false, AV.list (Ty.prod Ty.str (Ty.prod Ty.str Ty.str)) there_605 Bool.false, jj, jj, jj, AV.view (0 : Nat) (0 : Nat) Option.none, AV.int IntKind.i64 (Prod.fst s_659), AV.bool (Prod.fst s_661), AV.int IntKind.i64 (Prod.snd s_660), AV.int IntKind.i64 (Prod.snd s_661), jj, jj, jj, jj, jj, jj, jj, jj, jj, jj, jj, jj, jj, jj, jj, jj, jj, jj, jj, jj, jj, jj, jj, jj, jj, jj, jj, jj, jj, jj, jj, jj, jj, jj, jj, jj, jj, jj, jj, jj, jj, jj, jj, jj, jj, jj, jj, jj, jj] [AO.row (Ty.int IntKind.i64) (Prod.snd s_659)] (0 : Nat)))) (Prod.fst s_660, (0 : Int))) (by kernel_rfl) ?_
          refine W.loop (fun (s_661 : Bool × Int) => (Cfg.mk Mode.run (headTodo Go.Proofs.Tryd.prog 25 2) (St.mk [AV.list (Ty.list (Ty.prod Ty.str (Ty.prod Ty.str Ty.str))) l_604 Bool.false, AV.list (Ty.prod Ty.str (Ty.prod Ty.str Ty.str)) there_605 Bool.false, jj, jj, jj, AV.view (0 : Nat) (0 : Nat) Option.none, AV.int IntKind.i64 (Prod.fst s_659), AV.bool (Prod.fst s_661), AV.int IntKind.i64 (Prod.snd s_660), AV.int IntKind.i64 (Prod.snd s_661), jj, jj, jj, jj, jj, jj, jj, jj, jj, jj, jj, jj, jj, jj, jj, jj, jj, jj, jj, jj, jj, jj, jj, jj, jj, jj, jj, jj, jj, jj, jj, jj, jj, jj, jj, jj, jj, jj, jj, jj, jj, jj, jj, jj, jj, jj, jj, jj, jj] [AO.row (Ty.int IntKind.i64) (Prod.snd s_659)] (0 : Nat)))) (fun t_646 => Walk Go.Proofs.Tryd.prog 25 (Cfg.mk Mode.run ((headTodo Go.Proofs.Tryd.prog 25 2).drop 3) (St.mk [AV.list (Ty.list (Ty.prod Ty.str (Ty.prod Ty.str Ty.str))) l_604 Bool.false, AV.list (Ty.prod Ty.str (Ty.prod Ty.str Ty.str)) there_605 Bool.false, jj, jj, jj, AV.view (0 : Nat) (0 : Nat) Option.none, AV.int IntKind.i64 (Prod.fst s_659), AV.bool t_646, AV.int IntKind.i64 (Prod.snd s_660), jj, jj, jj, jj, jj, jj, jj, jj, jj, jj, jj, jj, jj, jj, jj, jj, jj, jj, jj, jj, jj, jj, jj, jj, jj, jj, jj, jj, jj, jj, jj, jj, jj, jj, jj, jj, jj, jj, jj, jj, jj, jj, jj, jj, jj, jj, jj, jj, jj, jj] [AO.row (Ty.int IntKind.i64) (Prod.snd s_659)] (0 : Nat))) (cellarerref07_Lacks_res r) (cellarerref07_Lacks_out r)) h651 (fun t_646 h651 => ?_) (fun s_661 x648 h648 K648 => ?_)
          ·
            cases h651; exact W.at 7 100000 [] [0, 1, 5, 6, 7, 8] (by kernel_rfl) K651
          · unfold cellarerref07_Lacks_b0 at h648
            refine W.cond 11 100000 h648 (by kernel_rfl) (fun h648 => ?_) (fun h648 => ?_)
            ·
              refine W.cond 11 100000 h648 (by kernel_rfl) (fun h648 => ?_) (fun h648 => ?_)
              ·
                refine W.yes 11 100000 (by kernel_rfl) ?_
                refine W.yes 11 100000 (by kernel_rfl) ?_
                refine W.yes 11 100000 (by kernel_rfl) ?_
                refine W.yes 11 100000 (by kernel_rfl) ?_
                refine W.yes 11 100000 (by kernel_rfl) ?_
                refine W.yes 11 100000 (by kernel_rfl) ?_
                refine W.yes 11 100000 (by kernel_rfl) ?_
                refine W.yes 11 100000 (by kernel_rfl) ?_
                refine W.yes 11 100000 (by kernel_rfl) ?_
                refine W.yes 11 100000 (by kernel_rfl) ?_
                refine W.yes 11 100000 (by kernel_rfl) ?_
                refine W.yes 11 100000 (by kernel_rfl) ?_
                refine W.yes 11 100000 (by kernel_rfl) ?_
                refine W.yes 11 100000 (by kernel_rfl) ?_
                refine W.yes 11 100000 (by kernel_rfl) ?_
                refine W.yes 11 100000 (by kernel_rfl) ?_
                refine W.yes 11 100000 (by kernel_rfl) ?_
                refine W.yes 11 100000 (by kernel_rfl) ?_
                cases h648; exact W.at 11 100000 [] [0, 1, 5, 6, 7, 8, 9] (by kernel_rfl) K648
              ·
                refine W.no 11 100000 (by kernel_rfl) ?_
                refine W.no 11 100000 (by kernel_rfl) ?_
                refine W.needT 11 100000 h648 (by kernel_rfl) (fun h648 => ?_)
                refine W.no 11 100000 (by kernel_rfl) ?_
                refine W.no 11 100000 (by kernel_rfl) ?_
                refine W.no 11 100000 (by kernel_rfl) ?_
                refine W.needT 11 100000 h648 (by kernel_rfl) (fun h648 => ?_)
                refine W.no 11 100000 (by kernel_rfl) ?_
                refine W.no 11 100000 (by kernel_rfl) ?_
                refine W.no 11 100000 (by kernel_rfl) ?_
                refine W.no 11 100000 (by kernel_rfl) ?_
                refine W.needT 11 100000 h648 (by kernel_rfl) (fun h648 => ?_)
                refine W.no 11 100000 (by kernel_rfl) ?_
                refine W.no 11 100000 (by kernel_rfl) ?_
                refine W.no 11 100000 (by kernel_rfl) ?_
                refine W.no 11 100000 (by kernel_rfl) ?_
                refine W.no 11 100000 (by kernel_rfl) ?_
                refine W.needT 11 100000 h648 (by kernel_rfl) (fun h648 => ?_)
                refine W.no 11 100000 (by kernel_rfl) ?_
                refine W.no 11 100000 (by kernel_rfl) ?_
                refine W.no 11 100000 (by kernel_rfl) ?_
                refine W.bind h648 fun a_644 ha_644 h648 => ?_
                refine W.call 11 100000 (by kernel_rfl) (cellarerref07_Fits_con ha_644) (by kernel_rfl) ?_
                refine W.no 11 100000 (by kernel_rfl) ?_
                cases h648; exact W.at 11 100000 [] [0, 1, 5, 6, 7, 8, 9] (by kernel_rfl) K648
            ·
              cases h648; exact W.at 11 100000 [] [0, 1, 5, 6, 7, 8] (by kernel_rfl) K648
        ·
          cases h651; exact W.at 7 100000 [] [0, 1, 5, 6, 7] (by kernel_rfl) K651
    ·
      cases h654; exact W.at 2 100000 [] [5] (by kernel_rfl) K654

theorem cellarerref07_SameList_con {a_664 : List (List UInt8 × List UInt8 × List UInt8)} {b_665 : List (List UInt8 × List UInt8 × List UInt8)} {r : Bool} (h : cellarerref07_SameList a_664 b_665 = some r) : Con Go.Proofs.Tryd.prog 8 [AV.list (Ty.prod Ty.str (Ty.prod Ty.str Ty.str)) a_664 Bool.false, AV.list (Ty.prod Ty.str (Ty.prod Ty.str Ty.str)) b_665 Bool.false] [] (cellarerref07_SameList_res r) (cellarerref07_SameList_out r) := by
  refine W.con (by kernel_rfl) ?_
  unfold cellarerref07_SameList at h
  refine W.cond 0 100000 h (by kernel_rfl) (fun h => ?_) (fun h => ?_)
  ·
    exact W.retT 0 100000 h (by kernel_rfl)
  ·
    refine W.at 0 100000 [] [0, 1, 5] (c' := (fun (s_675 : Int) => (Cfg.mk Mode.run (headTodo Go.Proofs.Tryd.prog 8 0) (St.mk [AV.list (Ty.prod Ty.str (Ty.prod Ty.str Ty.str)) a_664 Bool.false, AV.list (Ty.prod Ty.str (Ty.prod Ty.str Ty.str)) b_665 Bool.false, jj, jj, jj, AV.int IntKind.i64 s_675, jj, jj, jj, jj, jj, jj, jj, jj, jj, jj, jj, jj, jj, jj, jj, jj, jj, jj, jj, jj] [] (0 : Nat)))) ((0 : Int))) (by kernel_rfl) ?_
    refine W.loop (fun (s_675 : Int) => (Cfg.mk Mode.run (headTodo Go.Proofs.Tryd.prog 8 0) (St.mk [AV.list (Ty.prod Ty.str (Ty.prod Ty.str Ty.str)) a_664 Bool.false, AV.list (Ty.prod Ty.str (Ty.prod Ty.str Ty.str)) b_665 Bool.false, jj, jj, jj, AV.int IntKind.i64 s_675, jj, jj, jj, jj, jj, jj, jj, jj, jj, jj, jj, jj, jj, jj, jj, jj, jj, jj, jj, jj] [] (0 : Nat)))) (fun t => (Sum.elim (fun t_669 => r = (Bool.false)) (fun t_670 => Walk Go.Proofs.Tryd.prog 8 (Cfg.mk Mode.run ((headTodo Go.Proofs.Tryd.prog 8 0).drop 3) (St.mk [jj, jj, jj, jj, jj, jj, jj, jj, jj, jj, jj, jj, jj, jj, jj, jj, jj, jj, jj, jj, jj, jj, jj, jj, jj, jj] [] (0 : Nat))) (cellarerref07_SameList_res r) (cellarerref07_SameList_out r))) t) h (fun t h => ?_) (fun s_675 x672 h672 K672 => ?_)
    ·
      rcases t with t_669 | t_670
      · replace h := W.inl (h)
        refine W.elimL (?_)
        exact (Option.some.inj h).symm
      · replace h := W.inr (h)
        refine W.elimR (?_)
        exact W.retT 0 100000 h (by kernel_rfl)
    · unfold cellarerref07_SameList_b0 at h672
      refine W.cond 2 100000 h672 (by kernel_rfl) (fun h672 => ?_) (fun h672 => ?_)
      ·
        refine W.needT 2 100000 h672 (by kernel_rfl) (fun h672 => ?_)
        refine W.needT 2 100000 h672 (by kernel_rfl) (fun h672 => ?_)
        refine W.cond 2 100000 h672 (by kernel_rfl) (fun h672 => ?_) (fun h672 => ?_)
        ·
          cases h672; exact W.retK 2 100000 K672 (by kernel_rfl)
        ·
          cases h672; exact W.at 2 100000 [] [0, 1, 5] (by kernel_rfl) K672
      ·
        cases h672; exact W.at 2 100000 [] [] (by kernel_rfl) K672

end Go.Cellar
