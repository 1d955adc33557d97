/- What the program's functions come to: printed by a program, checked by Lean. No condition. -/
import Derived.Test.YtcbkbhmmehclmaaDoorFun5
import Derived.Test.YtcbkbhmmehclmaaDoorProg
set_option maxRecDepth 4000
set_option linter.unusedVariables false
namespace Go.Cellar
open Go

theorem stringslite_IndexByte_con {s_4 : List UInt8} {c_5 : Int} {r : Int} (h : stringslite_IndexByte s_4 c_5 = some r) : Con Go.Proofs.Tryd.prog 39 [AV.str s_4, AV.int IntKind.u8 c_5] [] (stringslite_IndexByte_res r) (stringslite_IndexByte_out r) := by
  refine W.con (by kernel_rfl) ?_
  unfold stringslite_IndexByte at h
  refine W.needT 0 100000 h (by kernel_rfl) (fun h => ?_)
  exact W.retT 0 100000 h (by kernel_rfl)

theorem strings_IndexByte_con {s_2 : List UInt8} {c_3 : Int} {r : Int} (h : strings_IndexByte s_2 c_3 = some r) : Con Go.Proofs.Tryd.prog 21 [AV.str s_2, AV.int IntKind.u8 c_3] [] (strings_IndexByte_res r) (strings_IndexByte_out r) := by
  refine W.con (by kernel_rfl) ?_
  unfold strings_IndexByte at h
  refine W.bind h fun a_8 ha_8 h => ?_
  refine W.call 0 100000 (by kernel_rfl) (stringslite_IndexByte_con ha_8) (by kernel_rfl) ?_
  exact W.retT 0 100000 h (by kernel_rfl)

theorem version_digit_con {c_19 : Int} {r : Bool} (h : version_digit c_19 = some r) : Con Go.Proofs.Tryd.prog 24 [AV.int IntKind.u8 c_19] [] (version_digit_res r) (version_digit_out r) := by
  refine W.con (by kernel_rfl) ?_
  unfold version_digit at h
  refine W.cond 0 100000 h (by kernel_rfl) (fun h => ?_) (fun h => ?_)
  ·
    refine W.yes 0 100000 (by kernel_rfl) ?_
    refine W.yes 0 100000 (by kernel_rfl) ?_
    exact W.retT 0 100000 h (by kernel_rfl)
  ·
    refine W.no 0 100000 (by kernel_rfl) ?_
    refine W.no 0 100000 (by kernel_rfl) ?_
    exact W.retT 0 100000 h (by kernel_rfl)

theorem version_epoch_con {s_12 : List UInt8} {r : Int × Bool} (h : version_epoch s_12 = some r) : Con Go.Proofs.Tryd.prog 22 [AV.str s_12] [] (version_epoch_res r) (version_epoch_out r) := by
  refine W.con (by kernel_rfl) ?_
  unfold version_epoch at h
  refine W.join (fun t => (Sum.elim (fun t_13 => r = ((0 : Int), Bool.false)) (fun t_14 => Walk Go.Proofs.Tryd.prog 22 (Cfg.mk Mode.run (seqTodo Go.Proofs.Tryd.prog 22 1) (St.mk [AV.str s_12, jj, jj, jj, jj, jj, jj, jj, jj, jj, jj, jj, jj, jj, jj, jj, jj, jj, jj, jj, jj, jj, jj, jj, jj, jj, jj, jj, jj, jj, jj, jj, jj, jj] [] (0 : Nat))) (version_epoch_res r) (version_epoch_out r))) t) h (fun t h => ?_) (fun t28 h28 K28 => ?_)
  ·
    rcases t with t_13 | t_14
    · replace h := W.inl (h)
      refine W.elimL (?_)
      exact (Option.some.inj h).symm
    · replace h := W.inr (h)
      refine W.elimR (?_)
      refine W.at 0 100000 [] [0, 4, 15, 16] (c' := (fun (s_32 : Int × Int) => (Cfg.mk Mode.run (headTodo Go.Proofs.Tryd.prog 22 0) (St.mk [AV.str s_12, jj, jj, jj, AV.int IntKind.i64 (Prod.fst s_32), jj, jj, jj, jj, jj, jj, jj, jj, jj, jj, AV.int IntKind.i64 (↑(List.length s_12) : Int), AV.int IntKind.i64 (Prod.snd s_32), jj, jj, jj, jj, jj, jj, jj, jj, jj, jj, jj, jj, jj, jj, jj, jj, jj] [] (0 : Nat)))) ((0 : Int), (0 : Int))) (by kernel_rfl) ?_
      refine W.loop (fun (s_32 : Int × Int) => (Cfg.mk Mode.run (headTodo Go.Proofs.Tryd.prog 22 0) (St.mk [AV.str s_12, jj, jj, jj, AV.int IntKind.i64 (Prod.fst s_32), jj, jj, jj, jj, jj, jj, jj, jj, jj, jj, AV.int IntKind.i64 (↑(List.length s_12) : Int), AV.int IntKind.i64 (Prod.snd s_32), jj, jj, jj, jj, jj, jj, jj, jj, jj, jj, jj, jj, jj, jj, jj, jj, jj] [] (0 : Nat)))) (fun t => (Sum.elim (fun t_23 => r = ((0 : Int), Bool.false)) (fun t_25 => Walk Go.Proofs.Tryd.prog 22 (Cfg.mk Mode.run ((headTodo Go.Proofs.Tryd.prog 22 0).drop 3) (St.mk [jj, jj, jj, jj, AV.int IntKind.i64 t_25, jj, jj, jj, jj, jj, jj, jj, jj, jj, jj, jj, jj, jj, jj, jj, jj, jj, jj, jj, jj, jj, jj, jj, jj, jj, jj, jj, jj, jj] [] (0 : Nat))) (version_epoch_res r) (version_epoch_out r))) t) h (fun t h => ?_) (fun s_32 x27 h27 K27 => ?_)
      ·
        rcases t with t_23 | t_25
        · replace h := W.inl (h)
          refine W.elimL (?_)
          exact (Option.some.inj h).symm
        · replace h := W.inr (h)
          refine W.elimR (?_)
          exact W.retT 0 100000 h (by kernel_rfl)
      · unfold version_epoch_b0 at h27
        refine W.cond 2 100000 h27 (by kernel_rfl) (fun h27 => ?_) (fun h27 => ?_)
        ·
          refine W.needT 2 100000 h27 (by kernel_rfl) (fun h27 => ?_)
          refine W.bind h27 fun a_22 ha_22 h27 => ?_
          refine W.call 2 100000 (by kernel_rfl) (version_digit_con ha_22) (by kernel_rfl) ?_
          refine W.cond 2 100000 h27 (by kernel_rfl) (fun h27 => ?_) (fun h27 => ?_)
          ·
            cases h27; exact W.retK 2 100000 K27 (by kernel_rfl)
          ·
            refine W.needT 2 100000 h27 (by kernel_rfl) (fun h27 => ?_)
            cases h27; exact W.at 2 100000 [] [0, 4, 15, 16] (by kernel_rfl) K27
        ·
          cases h27; exact W.at 2 100000 [] [4] (by kernel_rfl) K27
  · refine W.next 0 6 (by kernel_rfl) ?_
    refine W.cond 1 100000 h28 (by kernel_rfl) (fun h28 => ?_) (fun h28 => ?_)
    ·
      refine W.yes 1 100000 (by kernel_rfl) ?_
      refine W.yes 1 100000 (by kernel_rfl) ?_
      refine W.yes 1 100000 (by kernel_rfl) ?_
      refine W.yes 1 100000 (by kernel_rfl) ?_
      cases h28; exact W.retK 1 100000 K28 (by kernel_rfl)
    ·
      refine W.no 1 100000 (by kernel_rfl) ?_
      refine W.no 1 100000 (by kernel_rfl) ?_
      refine W.no 1 100000 (by kernel_rfl) ?_
      refine W.cond 1 100000 h28 (by kernel_rfl) (fun h28 => ?_) (fun h28 => ?_)
      ·
        cases h28; exact W.retK 1 100000 K28 (by kernel_rfl)
      ·
        cases h28; exact W.at 1 100000 [] [0] (by kernel_rfl) K28

theorem bytealg_LastIndexByteString_con {s_41 : List UInt8} {c_42 : Int} {r : Int} (h : bytealg_LastIndexByteString s_41 c_42 = some r) : Con Go.Proofs.Tryd.prog 40 [AV.str s_41, AV.int IntKind.u8 c_42] [] (bytealg_LastIndexByteString_res r) (bytealg_LastIndexByteString_out r) := by
  refine W.con (by kernel_rfl) ?_
  unfold bytealg_LastIndexByteString at h
  refine W.at 0 100000 [] [0, 1, 5] (c' := (fun (s_53 : Int) => (Cfg.mk Mode.run (headTodo Go.Proofs.Tryd.prog 40 0) (St.mk [AV.str s_41, AV.int IntKind.u8 c_42, jj, jj, jj, AV.int IntKind.i64 s_53, jj, jj, jj, jj, jj, jj, jj, jj, jj, jj, jj, jj, jj] [] (0 : Nat)))) (IntKind.wrap IntKind.i64 ((↑(List.length s_41) : Int) - (1 : Int)))) (by kernel_rfl) ?_
  refine W.loop (fun (s_53 : Int) => (Cfg.mk Mode.run (headTodo Go.Proofs.Tryd.prog 40 0) (St.mk [AV.str s_41, AV.int IntKind.u8 c_42, jj, jj, jj, AV.int IntKind.i64 s_53, jj, jj, jj, jj, jj, jj, jj, jj, jj, jj, jj, jj, jj] [] (0 : Nat)))) (fun t => (Sum.elim (fun t_47 => r = (t_47)) (fun t_48 => Walk Go.Proofs.Tryd.prog 40 (Cfg.mk Mode.run ((headTodo Go.Proofs.Tryd.prog 40 0).drop 3) (St.mk [jj, jj, jj, jj, jj, jj, jj, jj, jj, jj, jj, jj, jj, jj, jj, jj, jj, jj, jj] [] (0 : Nat))) (bytealg_LastIndexByteString_res r) (bytealg_LastIndexByteString_out r))) t) h (fun t h => ?_) (fun s_53 x50 h50 K50 => ?_)
  ·
    rcases t with t_47 | t_48
    · replace h := W.inl (h)
      refine W.elimL (?_)
      exact (Option.some.inj h).symm
    · replace h := W.inr (h)
      refine W.elimR (?_)
      exact W.retT 0 100000 h (by kernel_rfl)
  · unfold bytealg_LastIndexByteString_b0 at h50
    refine W.cond 2 100000 h50 (by kernel_rfl) (fun h50 => ?_) (fun h50 => ?_)
    ·
      refine W.needT 2 100000 h50 (by kernel_rfl) (fun h50 => ?_)
      refine W.cond 2 100000 h50 (by kernel_rfl) (fun h50 => ?_) (fun h50 => ?_)
      ·
        cases h50; exact W.retK 2 100000 K50 (by kernel_rfl)
      ·
        cases h50; exact W.at 2 100000 [] [0, 1, 5] (by kernel_rfl) K50
    ·
      cases h50; exact W.at 2 100000 [] [] (by kernel_rfl) K50

theorem strings_LastIndexByte_con {s_39 : List UInt8} {c_40 : Int} {r : Int} (h : strings_LastIndexByte s_39 c_40 = some r) : Con Go.Proofs.Tryd.prog 23 [AV.str s_39, AV.int IntKind.u8 c_40] [] (strings_LastIndexByte_res r) (strings_LastIndexByte_out r) := by
  refine W.con (by kernel_rfl) ?_
  unfold strings_LastIndexByte at h
  refine W.bind h fun a_54 ha_54 h => ?_
  refine W.call 0 100000 (by kernel_rfl) (bytealg_LastIndexByteString_con ha_54) (by kernel_rfl) ?_
  exact W.retT 0 100000 h (by kernel_rfl)

theorem version_letter_con {c_69 : Int} {r : Bool} (h : version_letter c_69 = some r) : Con Go.Proofs.Tryd.prog 41 [AV.int IntKind.u8 c_69] [] (version_letter_res r) (version_letter_out r) := by
  refine W.con (by kernel_rfl) ?_
  unfold version_letter at h
  refine W.cond 0 100000 h (by kernel_rfl) (fun h => ?_) (fun h => ?_)
  ·
    refine W.yes 0 100000 (by kernel_rfl) ?_
    refine W.yes 0 100000 (by kernel_rfl) ?_
    refine W.cond 0 100000 h (by kernel_rfl) (fun h => ?_) (fun h => ?_)
    ·
      refine W.yes 0 100000 (by kernel_rfl) ?_
      refine W.yes 0 100000 (by kernel_rfl) ?_
      refine W.yes 0 100000 (by kernel_rfl) ?_
      refine W.yes 0 100000 (by kernel_rfl) ?_
      exact W.retT 0 100000 h (by kernel_rfl)
    ·
      refine W.no 0 100000 (by kernel_rfl) ?_
      refine W.no 0 100000 (by kernel_rfl) ?_
      refine W.cond 0 100000 h (by kernel_rfl) (fun h => ?_) (fun h => ?_)
      ·
        refine W.yes 0 100000 (by kernel_rfl) ?_
        refine W.no 0 100000 (by kernel_rfl) ?_
        refine W.yes 0 100000 (by kernel_rfl) ?_
        refine W.no 0 100000 (by kernel_rfl) ?_
        exact W.retT 0 100000 h (by kernel_rfl)
      ·
        refine W.no 0 100000 (by kernel_rfl) ?_
        refine W.no 0 100000 (by kernel_rfl) ?_
        refine W.no 0 100000 (by kernel_rfl) ?_
        refine W.no 0 100000 (by kernel_rfl) ?_
        exact W.retT 0 100000 h (by kernel_rfl)
  ·
    refine W.no 0 100000 (by kernel_rfl) ?_
    refine W.no 0 100000 (by kernel_rfl) ?_
    refine W.no 0 100000 (by kernel_rfl) ?_
    refine W.no 0 100000 (by kernel_rfl) ?_
    refine W.no 0 100000 (by kernel_rfl) ?_
    refine W.cond 0 100000 h (by kernel_rfl) (fun h => ?_) (fun h => ?_)
    ·
      refine W.yes 0 100000 (by kernel_rfl) ?_
      refine W.no 0 100000 (by kernel_rfl) ?_
      refine W.yes 0 100000 (by kernel_rfl) ?_
      refine W.no 0 100000 (by kernel_rfl) ?_
      exact W.retT 0 100000 h (by kernel_rfl)
    ·
      refine W.no 0 100000 (by kernel_rfl) ?_
      refine W.no 0 100000 (by kernel_rfl) ?_
      refine W.no 0 100000 (by kernel_rfl) ?_
      refine W.no 0 100000 (by kernel_rfl) ?_
      exact W.retT 0 100000 h (by kernel_rfl)

theorem version_only_con {s_62 : List UInt8} {marks_63 : List UInt8} {r : Bool} (h : version_only s_62 marks_63 = some r) : Con Go.Proofs.Tryd.prog 25 [AV.str s_62, AV.str marks_63] [] (version_only_res r) (version_only_out r) := by
  refine W.con (by kernel_rfl) ?_
  unfold version_only at h
  refine W.at 0 100000 [] [0, 1, 7, 8] (c' := (fun (s_80 : Int) => (Cfg.mk Mode.run (headTodo Go.Proofs.Tryd.prog 25 0) (St.mk [AV.str s_62, AV.str marks_63, jj, jj, jj, jj, jj, AV.int IntKind.i64 (↑(List.length s_62) : Int), AV.int IntKind.i64 s_80, jj, jj, jj, jj, jj, jj, jj, jj, jj, jj, jj, jj, jj, jj, jj, jj, jj, jj, jj, jj, jj, jj, jj] [] (0 : Nat)))) ((0 : Int))) (by kernel_rfl) ?_
  refine W.loop (fun (s_80 : Int) => (Cfg.mk Mode.run (headTodo Go.Proofs.Tryd.prog 25 0) (St.mk [AV.str s_62, AV.str marks_63, jj, jj, jj, jj, jj, AV.int IntKind.i64 (↑(List.length s_62) : Int), AV.int IntKind.i64 s_80, jj, jj, jj, jj, jj, jj, jj, jj, jj, jj, jj, jj, jj, jj, jj, jj, jj, jj, jj, jj, jj, jj, jj] [] (0 : Nat)))) (fun t => (Sum.elim (fun t_74 => r = (Bool.false)) (fun t_75 => Walk Go.Proofs.Tryd.prog 25 (Cfg.mk Mode.run ((headTodo Go.Proofs.Tryd.prog 25 0).drop 3) (St.mk [jj, jj, jj, jj, jj, jj, jj, jj, jj, jj, jj, jj, jj, jj, jj, jj, jj, jj, jj, jj, jj, jj, jj, jj, jj, jj, jj, jj, jj, jj, jj, jj] [] (0 : Nat))) (version_only_res r) (version_only_out r))) t) h (fun t h => ?_) (fun s_80 x77 h77 K77 => ?_)
  ·
    rcases t with t_74 | t_75
    · replace h := W.inl (h)
      refine W.elimL (?_)
      exact (Option.some.inj h).symm
    · replace h := W.inr (h)
      refine W.elimR (?_)
      exact W.retT 0 100000 h (by kernel_rfl)
  · unfold version_only_b0 at h77
    refine W.cond 2 100000 h77 (by kernel_rfl) (fun h77 => ?_) (fun h77 => ?_)
    ·
      refine W.needT 2 100000 h77 (by kernel_rfl) (fun h77 => ?_)
      refine W.bind h77 fun a_68 ha_68 h77 => ?_
      refine W.call 2 100000 (by kernel_rfl) (version_digit_con ha_68) (by kernel_rfl) ?_
      refine W.cond 2 100000 h77 (by kernel_rfl) (fun h77 => ?_) (fun h77 => ?_)
      ·
        refine W.yes 2 100000 (by kernel_rfl) ?_
        refine W.yes 2 100000 (by kernel_rfl) ?_
        refine W.needT 2 100000 h77 (by kernel_rfl) (fun h77 => ?_)
        refine W.yes 2 100000 (by kernel_rfl) ?_
        refine W.bind h77 fun a_72 ha_72 h77 => ?_
        refine W.call 2 100000 (by kernel_rfl) (version_letter_con ha_72) (by kernel_rfl) ?_
        refine W.yes 2 100000 (by kernel_rfl) ?_
        refine W.yes 2 100000 (by kernel_rfl) ?_
        refine W.cond 2 100000 h77 (by kernel_rfl) (fun h77 => ?_) (fun h77 => ?_)
        ·
          refine W.yes 2 100000 (by kernel_rfl) ?_
          refine W.yes 2 100000 (by kernel_rfl) ?_
          refine W.yes 2 100000 (by kernel_rfl) ?_
          refine W.needT 2 100000 h77 (by kernel_rfl) (fun h77 => ?_)
          refine W.yes 2 100000 (by kernel_rfl) ?_
          refine W.bind h77 fun a_73 ha_73 h77 => ?_
          refine W.call 2 100000 (by kernel_rfl) (strings_IndexByte_con ha_73) (by kernel_rfl) ?_
          refine W.yes 2 100000 (by kernel_rfl) ?_
          refine W.yes 2 100000 (by kernel_rfl) ?_
          refine W.cond 2 100000 h77 (by kernel_rfl) (fun h77 => ?_) (fun h77 => ?_)
          ·
            cases h77; exact W.retK 2 100000 K77 (by kernel_rfl)
          ·
            cases h77; exact W.at 2 100000 [] [0, 1, 7, 8] (by kernel_rfl) K77
        ·
          refine W.no 2 100000 (by kernel_rfl) ?_
          refine W.no 2 100000 (by kernel_rfl) ?_
          refine W.no 2 100000 (by kernel_rfl) ?_
          refine W.no 2 100000 (by kernel_rfl) ?_
          refine W.no 2 100000 (by kernel_rfl) ?_
          refine W.no 2 100000 (by kernel_rfl) ?_
          refine W.no 2 100000 (by kernel_rfl) ?_
          cases h77; exact W.at 2 100000 [] [0, 1, 7, 8] (by kernel_rfl) K77
      ·
        refine W.no 2 100000 (by kernel_rfl) ?_
        refine W.no 2 100000 (by kernel_rfl) ?_
        refine W.no 2 100000 (by kernel_rfl) ?_
        refine W.no 2 100000 (by kernel_rfl) ?_
        refine W.no 2 100000 (by kernel_rfl) ?_
        refine W.no 2 100000 (by kernel_rfl) ?_
        refine W.no 2 100000 (by kernel_rfl) ?_
        refine W.no 2 100000 (by kernel_rfl) ?_
        refine W.no 2 100000 (by kernel_rfl) ?_
        refine W.no 2 100000 (by kernel_rfl) ?_
        refine W.no 2 100000 (by kernel_rfl) ?_
        refine W.no 2 100000 (by kernel_rfl) ?_
        refine W.no 2 100000 (by kernel_rfl) ?_
        cases h77; exact W.at 2 100000 [] [0, 1, 7, 8] (by kernel_rfl) K77
    ·
      cases h77; exact W.at 2 100000 [] [] (by kernel_rfl) K77

theorem version_Parse_con {s_1 : List UInt8} {r : Int × List UInt8 × List UInt8 × Int} (h : version_Parse s_1 = some r) : Con Go.Proofs.Tryd.prog 10 [AV.str s_1] [] (version_Parse_res r) (version_Parse_out r) := by
  refine W.con (by kernel_rfl) ?_
  unfold version_Parse at h
  refine W.cond 0 100000 h (by kernel_rfl) (fun h => ?_) (fun h => ?_)
  ·
    exact W.retT 0 100000 h (by kernel_rfl)
  ·
    refine W.join (fun t => (Sum.elim (fun t_34 => r = ((0 : Int), [], [], (2 : Int))) (fun t_38 => Walk Go.Proofs.Tryd.prog 10 (Cfg.mk Mode.run (seqTodo Go.Proofs.Tryd.prog 10 6) (St.mk [jj, jj, AV.ptr (0 : Nat) (0 : Nat), jj, AV.ptr (1 : Nat) (0 : Nat), AV.str (Prod.fst t_38), AV.str (Prod.fst (Prod.snd t_38)), jj, jj, jj, jj, jj, jj, jj, jj, jj, jj, jj, jj, jj, jj, jj, jj, jj, jj, jj, jj, jj, jj, jj, jj, jj, jj, jj, jj, jj, jj, jj, jj, jj, jj, jj, jj, jj, jj, jj, jj, jj, jj, jj, jj, jj, jj, jj, jj, jj, jj, jj, jj, jj, jj, jj, jj, jj, jj, jj, jj, jj, jj, jj, jj, jj, jj, jj, jj, jj, jj, jj, jj, jj, jj, jj] [AO.box [AV.int IntKind.i64 (0 : Int), AV.str [], AV.str []], AO.box [AV.int IntKind.i64 (Prod.snd (Prod.snd t_38)), AV.str [], AV.str [(48 : UInt8)]]] (0 : Nat))) (version_Parse_res r) (version_Parse_out r))) t) h (fun t h => ?_) (fun t85 h85 K85 => ?_)
    ·
      rcases t with t_34 | t_38
      · replace h := W.inl (h)
        refine W.elimL (?_)
        exact (Option.some.inj h).symm
      · replace h := W.inr (h)
        refine W.elimR (?_)
        refine W.join (fun t_60 => Walk Go.Proofs.Tryd.prog 10 (Cfg.mk Mode.run (seqTodo Go.Proofs.Tryd.prog 10 14) (St.mk [jj, jj, AV.ptr (0 : Nat) (0 : Nat), jj, AV.ptr (1 : Nat) (0 : Nat), AV.str (Prod.fst t_38), jj, jj, jj, jj, jj, jj, jj, jj, jj, jj, jj, jj, jj, jj, jj, jj, jj, jj, jj, jj, jj, jj, jj, jj, jj, jj, jj, jj, jj, jj, jj, jj, jj, jj, jj, jj, jj, jj, jj, jj, jj, jj, jj, jj, jj, jj, jj, jj, jj, jj, jj, jj, jj, jj, jj, jj, jj, jj, jj, jj, jj, jj, jj, jj, jj, jj, jj, jj, jj, jj, jj, jj, jj, jj, jj, jj] [AO.box [AV.int IntKind.i64 (0 : Int), AV.str [], AV.str []], AO.box [AV.int IntKind.i64 (Prod.snd (Prod.snd t_38)), AV.str (Prod.fst t_60), AV.str (Prod.snd t_60)]] (0 : Nat))) (version_Parse_res r) (version_Parse_out r)) h (fun t_60 h => ?_) (fun t84 h84 K84 => ?_)
        ·
          refine W.cond 0 100000 h (by kernel_rfl) (fun h => ?_) (fun h => ?_)
          ·
            refine W.yes 0 100000 (by kernel_rfl) ?_
            refine W.yes 0 100000 (by kernel_rfl) ?_
            refine W.yes 0 100000 (by kernel_rfl) ?_
            refine W.yes 0 100000 (by kernel_rfl) ?_
            refine W.yes 0 100000 (by kernel_rfl) ?_
            refine W.yes 0 100000 (by kernel_rfl) ?_
            refine W.yes 0 100000 (by kernel_rfl) ?_
            refine W.yes 0 100000 (by kernel_rfl) ?_
            refine W.yes 0 100000 (by kernel_rfl) ?_
            refine W.yes 0 100000 (by kernel_rfl) ?_
            refine W.yes 0 100000 (by kernel_rfl) ?_
            refine W.yes 0 100000 (by kernel_rfl) ?_
            refine W.yes 0 100000 (by kernel_rfl) ?_
            refine W.yes 0 100000 (by kernel_rfl) ?_
            refine W.yes 0 100000 (by kernel_rfl) ?_
            refine W.yes 0 100000 (by kernel_rfl) ?_
            refine W.yes 0 100000 (by kernel_rfl) ?_
            refine W.yes 0 100000 (by kernel_rfl) ?_
            refine W.yes 0 100000 (by kernel_rfl) ?_
            refine W.yes 0 100000 (by kernel_rfl) ?_
            refine W.yes 0 100000 (by kernel_rfl) ?_
            exact W.retT 0 100000 h (by kernel_rfl)
          ·
            refine W.no 0 100000 (by kernel_rfl) ?_
            refine W.no 0 100000 (by kernel_rfl) ?_
            refine W.needT 0 100000 h (by kernel_rfl) (fun h => ?_)
            refine W.no 0 100000 (by kernel_rfl) ?_
            refine W.bind h fun a_61 ha_61 h => ?_
            refine W.call 0 100000 (by kernel_rfl) (version_digit_con ha_61) (by kernel_rfl) ?_
            refine W.no 0 100000 (by kernel_rfl) ?_
            refine W.no 0 100000 (by kernel_rfl) ?_
            refine W.cond 0 100000 h (by kernel_rfl) (fun h => ?_) (fun h => ?_)
            ·
              refine W.yes 0 100000 (by kernel_rfl) ?_
              refine W.yes 0 100000 (by kernel_rfl) ?_
              refine W.yes 0 100000 (by kernel_rfl) ?_
              refine W.yes 0 100000 (by kernel_rfl) ?_
              refine W.yes 0 100000 (by kernel_rfl) ?_
              refine W.yes 0 100000 (by kernel_rfl) ?_
              refine W.yes 0 100000 (by kernel_rfl) ?_
              refine W.yes 0 100000 (by kernel_rfl) ?_
              refine W.yes 0 100000 (by kernel_rfl) ?_
              refine W.yes 0 100000 (by kernel_rfl) ?_
              refine W.yes 0 100000 (by kernel_rfl) ?_
              refine W.yes 0 100000 (by kernel_rfl) ?_
              refine W.yes 0 100000 (by kernel_rfl) ?_
              refine W.yes 0 100000 (by kernel_rfl) ?_
              refine W.yes 0 100000 (by kernel_rfl) ?_
              exact W.retT 0 100000 h (by kernel_rfl)
            ·
              refine W.no 0 100000 (by kernel_rfl) ?_
              refine W.no 0 100000 (by kernel_rfl) ?_
              refine W.no 0 100000 (by kernel_rfl) ?_
              refine W.bind h fun a_81 ha_81 h => ?_
              refine W.call 0 100000 (by kernel_rfl) (version_only_con ha_81) (by kernel_rfl) ?_
              refine W.no 0 100000 (by kernel_rfl) ?_
              refine W.no 0 100000 (by kernel_rfl) ?_
              refine W.cond 0 100000 h (by kernel_rfl) (fun h => ?_) (fun h => ?_)
              ·
                refine W.yes 0 100000 (by kernel_rfl) ?_
                refine W.yes 0 100000 (by kernel_rfl) ?_
                refine W.yes 0 100000 (by kernel_rfl) ?_
                refine W.yes 0 100000 (by kernel_rfl) ?_
                refine W.yes 0 100000 (by kernel_rfl) ?_
                refine W.yes 0 100000 (by kernel_rfl) ?_
                refine W.yes 0 100000 (by kernel_rfl) ?_
                refine W.yes 0 100000 (by kernel_rfl) ?_
                refine W.yes 0 100000 (by kernel_rfl) ?_
                exact W.retT 0 100000 h (by kernel_rfl)
              ·
                refine W.no 0 100000 (by kernel_rfl) ?_
                refine W.no 0 100000 (by kernel_rfl) ?_
                refine W.no 0 100000 (by kernel_rfl) ?_
                refine W.cond 0 100000 h (by kernel_rfl) (fun h => ?_) (fun h => ?_)
                ·
                  refine W.yes 0 100000 (by kernel_rfl) ?_
                  refine W.yes 0 100000 (by kernel_rfl) ?_
                  refine W.yes 0 100000 (by kernel_rfl) ?_
                  refine W.yes 0 100000 (by kernel_rfl) ?_
                  refine W.yes 0 100000 (by kernel_rfl) ?_
                  exact W.retT 0 100000 h (by kernel_rfl)
                ·
                  refine W.no 0 100000 (by kernel_rfl) ?_
                  refine W.no 0 100000 (by kernel_rfl) ?_
                  refine W.bind h fun a_82 ha_82 h => ?_
                  refine W.call 0 100000 (by kernel_rfl) (version_only_con ha_82) (by kernel_rfl) ?_
                  refine W.no 0 100000 (by kernel_rfl) ?_
                  refine W.no 0 100000 (by kernel_rfl) ?_
                  refine W.cond 0 100000 h (by kernel_rfl) (fun h => ?_) (fun h => ?_)
                  ·
                    exact W.retT 0 100000 h (by kernel_rfl)
                  ·
                    exact W.retT 0 100000 h (by kernel_rfl)
        · refine W.next 0 7 (by kernel_rfl) ?_
          refine W.bind h84 fun a_57 ha_57 h84 => ?_
          refine W.call 1 100000 (by kernel_rfl) (strings_LastIndexByte_con ha_57) (by kernel_rfl) ?_
          refine W.cond 1 100000 h84 (by kernel_rfl) (fun h84 => ?_) (fun h84 => ?_)
          ·
            refine W.needT 1 100000 h84 (by kernel_rfl) (fun h84 => ?_)
            refine W.needT 1 100000 h84 (by kernel_rfl) (fun h84 => ?_)
            cases h84; exact W.at 1 100000 [] [2, 4, 5] (by kernel_rfl) K84
          ·
            cases h84; exact W.at 1 100000 [] [2, 4, 5] (by kernel_rfl) K84
    · refine W.next 0 14 (by kernel_rfl) ?_
      refine W.bind h85 fun a_11 ha_11 h85 => ?_
      refine W.call 1 100000 (by kernel_rfl) (strings_IndexByte_con ha_11) (by kernel_rfl) ?_
      refine W.cond 1 100000 h85 (by kernel_rfl) (fun h85 => ?_) (fun h85 => ?_)
      ·
        refine W.needT 1 100000 h85 (by kernel_rfl) (fun h85 => ?_)
        refine W.bind h85 fun a_33 ha_33 h85 => ?_
        refine W.call 1 100000 (by kernel_rfl) (version_epoch_con ha_33) (by kernel_rfl) ?_
        refine W.cond 1 100000 h85 (by kernel_rfl) (fun h85 => ?_) (fun h85 => ?_)
        ·
          cases h85; exact W.retK 1 100000 K85 (by kernel_rfl)
        ·
          refine W.needT 1 100000 h85 (by kernel_rfl) (fun h85 => ?_)
          cases h85; exact W.at 1 100000 [] [2, 4, 5, 6] (by kernel_rfl) K85
      ·
        cases h85; exact W.at 1 100000 [] [2, 4, 5, 6] (by kernel_rfl) K85

theorem cellarerref05_at_con {s_92 : List UInt8} {c_93 : Int} {last_94 : Bool} {r : Int} (h : cellarerref05_at s_92 c_93 last_94 = some r) : Con Go.Proofs.Tryd.prog 26 [AV.str s_92, AV.int IntKind.u8 c_93, AV.bool last_94] [] (cellarerref05_at_res r) (cellarerref05_at_out r) := by
  refine W.con (by kernel_rfl) ?_
  unfold cellarerref05_at at h
  refine W.at 0 100000 [] [0, 1, 2, 7, 8] (c' := (fun (s_106 : Int × Int) => (Cfg.mk Mode.run (headTodo Go.Proofs.Tryd.prog 26 0) (St.mk [AV.str s_92, AV.int IntKind.u8 c_93, AV.bool last_94, jj, jj, jj, jj, AV.int IntKind.i64 (Prod.fst s_106), AV.int IntKind.i64 (Prod.snd s_106), jj, jj, jj, jj, jj, jj, jj, jj, jj, jj, jj, jj, jj, jj, jj, jj, jj, jj, jj, jj] [] (0 : Nat)))) ((-1 : Int), (0 : Int))) (by kernel_rfl) ?_
  refine W.loop (fun (s_106 : Int × Int) => (Cfg.mk Mode.run (headTodo Go.Proofs.Tryd.prog 26 0) (St.mk [AV.str s_92, AV.int IntKind.u8 c_93, AV.bool last_94, jj, jj, jj, jj, AV.int IntKind.i64 (Prod.fst s_106), AV.int IntKind.i64 (Prod.snd s_106), jj, jj, jj, jj, jj, jj, jj, jj, jj, jj, jj, jj, jj, jj, jj, jj, jj, jj, jj, jj] [] (0 : Nat)))) (fun t_101 => Walk Go.Proofs.Tryd.prog 26 (Cfg.mk Mode.run ((headTodo Go.Proofs.Tryd.prog 26 0).drop 3) (St.mk [jj, jj, jj, jj, jj, jj, jj, AV.int IntKind.i64 t_101, jj, jj, jj, jj, jj, jj, jj, jj, jj, jj, jj, jj, jj, jj, jj, jj, jj, jj, jj, jj, jj] [] (0 : Nat))) (cellarerref05_at_res r) (cellarerref05_at_out r)) h (fun t_101 h => ?_) (fun s_106 x103 h103 K103 => ?_)
  ·
    exact W.retT 0 100000 h (by kernel_rfl)
  · unfold cellarerref05_at_b0 at h103
    refine W.cond 2 100000 h103 (by kernel_rfl) (fun h103 => ?_) (fun h103 => ?_)
    ·
      refine W.needT 2 100000 h103 (by kernel_rfl) (fun h103 => ?_)
      refine W.cond 2 100000 h103 (by kernel_rfl) (fun h103 => ?_) (fun h103 => ?_)
      ·
        refine W.yes 2 100000 (by kernel_rfl) ?_
        refine W.cond 2 100000 h103 (by kernel_rfl) (fun h103 => ?_) (fun h103 => ?_)
        ·
          refine W.yes 2 100000 (by kernel_rfl) ?_
          refine W.yes 2 100000 (by kernel_rfl) ?_
          refine W.yes 2 100000 (by kernel_rfl) ?_
          refine W.yes 2 100000 (by kernel_rfl) ?_
          refine W.yes 2 100000 (by kernel_rfl) ?_
          cases h103; exact W.at 2 100000 [] [0, 1, 2, 7, 8] (by kernel_rfl) K103
        ·
          refine W.no 2 100000 (by kernel_rfl) ?_
          refine W.yes 2 100000 (by kernel_rfl) ?_
          refine W.no 2 100000 (by kernel_rfl) ?_
          refine W.yes 2 100000 (by kernel_rfl) ?_
          refine W.cond 2 100000 h103 (by kernel_rfl) (fun h103 => ?_) (fun h103 => ?_)
          ·
            cases h103; exact W.at 2 100000 [] [0, 1, 2, 7, 8] (by kernel_rfl) K103
          ·
            cases h103; exact W.at 2 100000 [] [0, 1, 2, 7, 8] (by kernel_rfl) K103
      ·
        refine W.no 2 100000 (by kernel_rfl) ?_
        refine W.no 2 100000 (by kernel_rfl) ?_
        refine W.no 2 100000 (by kernel_rfl) ?_
        refine W.no 2 100000 (by kernel_rfl) ?_
        cases h103; exact W.at 2 100000 [] [0, 1, 2, 7, 8] (by kernel_rfl) K103
    ·
      cases h103; exact W.at 2 100000 [] [7] (by kernel_rfl) K103

theorem cellarerref05_Digit_con {c_124 : Int} {r : Bool} (h : cellarerref05_Digit c_124 = some r) : Con Go.Proofs.Tryd.prog 27 [AV.int IntKind.u8 c_124] [] (cellarerref05_Digit_res r) (cellarerref05_Digit_out r) := by
  refine W.con (by kernel_rfl) ?_
  unfold cellarerref05_Digit at h
  refine W.cond 0 100000 h (by kernel_rfl) (fun h => ?_) (fun h => ?_)
  ·
    refine W.yes 0 100000 (by kernel_rfl) ?_
    refine W.yes 0 100000 (by kernel_rfl) ?_
    exact W.retT 0 100000 h (by kernel_rfl)
  ·
    refine W.no 0 100000 (by kernel_rfl) ?_
    refine W.no 0 100000 (by kernel_rfl) ?_
    exact W.retT 0 100000 h (by kernel_rfl)

theorem cellarerref05_Letter_con {c_149 : Int} {r : Bool} (h : cellarerref05_Letter c_149 = some r) : Con Go.Proofs.Tryd.prog 42 [AV.int IntKind.u8 c_149] [] (cellarerref05_Letter_res r) (cellarerref05_Letter_out r) := by
  refine W.con (by kernel_rfl) ?_
  unfold cellarerref05_Letter at h
  refine W.cond 0 100000 h (by kernel_rfl) (fun h => ?_) (fun h => ?_)
  ·
    refine W.yes 0 100000 (by kernel_rfl) ?_
    refine W.yes 0 100000 (by kernel_rfl) ?_
    refine W.cond 0 100000 h (by kernel_rfl) (fun h => ?_) (fun h => ?_)
    ·
      refine W.yes 0 100000 (by kernel_rfl) ?_
      refine W.yes 0 100000 (by kernel_rfl) ?_
      refine W.yes 0 100000 (by kernel_rfl) ?_
      refine W.yes 0 100000 (by kernel_rfl) ?_
      exact W.retT 0 100000 h (by kernel_rfl)
    ·
      refine W.no 0 100000 (by kernel_rfl) ?_
      refine W.no 0 100000 (by kernel_rfl) ?_
      refine W.cond 0 100000 h (by kernel_rfl) (fun h => ?_) (fun h => ?_)
      ·
        refine W.yes 0 100000 (by kernel_rfl) ?_
        refine W.no 0 100000 (by kernel_rfl) ?_
        refine W.yes 0 100000 (by kernel_rfl) ?_
        refine W.no 0 100000 (by kernel_rfl) ?_
        exact W.retT 0 100000 h (by kernel_rfl)
      ·
        refine W.no 0 100000 (by kernel_rfl) ?_
        refine W.no 0 100000 (by kernel_rfl) ?_
        refine W.no 0 100000 (by kernel_rfl) ?_
        refine W.no 0 100000 (by kernel_rfl) ?_
        exact W.retT 0 100000 h (by kernel_rfl)
  ·
    refine W.no 0 100000 (by kernel_rfl) ?_
    refine W.no 0 100000 (by kernel_rfl) ?_
    refine W.no 0 100000 (by kernel_rfl) ?_
    refine W.no 0 100000 (by kernel_rfl) ?_
    refine W.no 0 100000 (by kernel_rfl) ?_
    refine W.cond 0 100000 h (by kernel_rfl) (fun h => ?_) (fun h => ?_)
    ·
      refine W.yes 0 100000 (by kernel_rfl) ?_
      refine W.no 0 100000 (by kernel_rfl) ?_
      refine W.yes 0 100000 (by kernel_rfl) ?_
      refine W.no 0 100000 (by kernel_rfl) ?_
      exact W.retT 0 100000 h (by kernel_rfl)
    ·
      refine W.no 0 100000 (by kernel_rfl) ?_
      refine W.no 0 100000 (by kernel_rfl) ?_
      refine W.no 0 100000 (by kernel_rfl) ?_
      refine W.no 0 100000 (by kernel_rfl) ?_
      exact W.retT 0 100000 h (by kernel_rfl)

theorem cellarerref05_only_con {s_143 : List UInt8} {marks_144 : List UInt8} {r : Bool} (h : cellarerref05_only s_143 marks_144 = some r) : Con Go.Proofs.Tryd.prog 28 [AV.str s_143, AV.str marks_144] [] (cellarerref05_only_res r) (cellarerref05_only_out r) := by
  refine W.con (by kernel_rfl) ?_
  unfold cellarerref05_only at h
  refine W.at 0 100000 [] [0, 1, 5] (c' := (fun (s_160 : Int) => (Cfg.mk Mode.run (headTodo Go.Proofs.Tryd.prog 28 0) (St.mk [AV.str s_143, AV.str marks_144, jj, jj, jj, AV.int IntKind.i64 s_160, jj, jj, jj, jj, jj, jj, jj, jj, jj, jj, jj, jj, jj, jj, jj, jj, jj, jj, jj, jj, jj, jj, jj, jj, jj, jj] [] (0 : Nat)))) ((0 : Int))) (by kernel_rfl) ?_
  refine W.loop (fun (s_160 : Int) => (Cfg.mk Mode.run (headTodo Go.Proofs.Tryd.prog 28 0) (St.mk [AV.str s_143, AV.str marks_144, jj, jj, jj, AV.int IntKind.i64 s_160, jj, jj, jj, jj, jj, jj, jj, jj, jj, jj, jj, jj, jj, jj, jj, jj, jj, jj, jj, jj, jj, jj, jj, jj, jj, jj] [] (0 : Nat)))) (fun t => (Sum.elim (fun t_154 => r = (Bool.false)) (fun t_155 => Walk Go.Proofs.Tryd.prog 28 (Cfg.mk Mode.run ((headTodo Go.Proofs.Tryd.prog 28 0).drop 3) (St.mk [jj, jj, jj, jj, jj, jj, jj, jj, jj, jj, jj, jj, jj, jj, jj, jj, jj, jj, jj, jj, jj, jj, jj, jj, jj, jj, jj, jj, jj, jj, jj, jj] [] (0 : Nat))) (cellarerref05_only_res r) (cellarerref05_only_out r))) t) h (fun t h => ?_) (fun s_160 x157 h157 K157 => ?_)
  ·
    rcases t with t_154 | t_155
    · replace h := W.inl (h)
      refine W.elimL (?_)
      exact (Option.some.inj h).symm
    · replace h := W.inr (h)
      refine W.elimR (?_)
      exact W.retT 0 100000 h (by kernel_rfl)
  · unfold cellarerref05_only_b0 at h157
    refine W.cond 2 100000 h157 (by kernel_rfl) (fun h157 => ?_) (fun h157 => ?_)
    ·
      refine W.needT 2 100000 h157 (by kernel_rfl) (fun h157 => ?_)
      refine W.bind h157 fun a_148 ha_148 h157 => ?_
      refine W.call 2 100000 (by kernel_rfl) (cellarerref05_Digit_con ha_148) (by kernel_rfl) ?_
      refine W.cond 2 100000 h157 (by kernel_rfl) (fun h157 => ?_) (fun h157 => ?_)
      ·
        refine W.yes 2 100000 (by kernel_rfl) ?_
        refine W.yes 2 100000 (by kernel_rfl) ?_
        refine W.needT 2 100000 h157 (by kernel_rfl) (fun h157 => ?_)
        refine W.yes 2 100000 (by kernel_rfl) ?_
        refine W.bind h157 fun a_152 ha_152 h157 => ?_
        refine W.call 2 100000 (by kernel_rfl) (cellarerref05_Letter_con ha_152) (by kernel_rfl) ?_
        refine W.yes 2 100000 (by kernel_rfl) ?_
        refine W.yes 2 100000 (by kernel_rfl) ?_
        refine W.cond 2 100000 h157 (by kernel_rfl) (fun h157 => ?_) (fun h157 => ?_)
        ·
          refine W.yes 2 100000 (by kernel_rfl) ?_
          refine W.yes 2 100000 (by kernel_rfl) ?_
          refine W.yes 2 100000 (by kernel_rfl) ?_
          refine W.needT 2 100000 h157 (by kernel_rfl) (fun h157 => ?_)
          refine W.yes 2 100000 (by kernel_rfl) ?_
          refine W.bind h157 fun a_153 ha_153 h157 => ?_
          refine W.call 2 100000 (by kernel_rfl) (cellarerref05_at_con ha_153) (by kernel_rfl) ?_
          refine W.yes 2 100000 (by kernel_rfl) ?_
          refine W.yes 2 100000 (by kernel_rfl) ?_
          refine W.cond 2 100000 h157 (by kernel_rfl) (fun h157 => ?_) (fun h157 => ?_)
          ·
            cases h157; exact W.retK 2 100000 K157 (by kernel_rfl)
          ·
            cases h157; exact W.at 2 100000 [] [0, 1, 5] (by kernel_rfl) K157
        ·
          refine W.no 2 100000 (by kernel_rfl) ?_
          refine W.no 2 100000 (by kernel_rfl) ?_
          refine W.no 2 100000 (by kernel_rfl) ?_
          refine W.no 2 100000 (by kernel_rfl) ?_
          refine W.no 2 100000 (by kernel_rfl) ?_
          refine W.no 2 100000 (by kernel_rfl) ?_
          refine W.no 2 100000 (by kernel_rfl) ?_
          cases h157; exact W.at 2 100000 [] [0, 1, 5] (by kernel_rfl) K157
      ·
        refine W.no 2 100000 (by kernel_rfl) ?_
        refine W.no 2 100000 (by kernel_rfl) ?_
        refine W.no 2 100000 (by kernel_rfl) ?_
        refine W.no 2 100000 (by kernel_rfl) ?_
        refine W.no 2 100000 (by kernel_rfl) ?_
        refine W.no 2 100000 (by kernel_rfl) ?_
        refine W.no 2 100000 (by kernel_rfl) ?_
        refine W.no 2 100000 (by kernel_rfl) ?_
        refine W.no 2 100000 (by kernel_rfl) ?_
        refine W.no 2 100000 (by kernel_rfl) ?_
        refine W.no 2 100000 (by kernel_rfl) ?_
        refine W.no 2 100000 (by kernel_rfl) ?_
        refine W.no 2 100000 (by kernel_rfl) ?_
        cases h157; exact W.at 2 100000 [] [0, 1, 5] (by kernel_rfl) K157
    ·
      cases h157; exact W.at 2 100000 [] [] (by kernel_rfl) K157

theorem cellarerref05_Parse_con {s_91 : List UInt8} {r : Int × List UInt8 × List UInt8 × Int} (h : cellarerref05_Parse s_91 = some r) : Con Go.Proofs.Tryd.prog 11 [AV.str s_91] [] (cellarerref05_Parse_res r) (cellarerref05_Parse_out r) := by
  refine W.con (by kernel_rfl) ?_
  unfold cellarerref05_Parse at h
  refine W.cond 0 100000 h (by kernel_rfl) (fun h => ?_) (fun h => ?_)
  ·
    exact W.retT 0 100000 h (by kernel_rfl)
  ·
    refine W.bind h fun a_107 ha_107 h => ?_
    refine W.call 0 100000 (by kernel_rfl) (cellarerref05_at_con ha_107) (by kernel_rfl) ?_
    refine W.join (fun t => (Sum.elim (fun t_133 => r = ((0 : Int), [], [], (2 : Int))) (fun t_137 => Walk Go.Proofs.Tryd.prog 11 (Cfg.mk Mode.run (seqTodo Go.Proofs.Tryd.prog 11 9) (St.mk [jj, jj, AV.ptr (0 : Nat) (0 : Nat), jj, AV.ptr (1 : Nat) (0 : Nat), AV.ptr (2 : Nat) (0 : Nat), jj, AV.str (Prod.fst t_137), AV.str (Prod.fst (Prod.snd t_137)), jj, jj, jj, jj, jj, jj, jj, jj, jj, jj, jj, jj, jj, jj, jj, jj, jj, jj, jj, jj, jj, jj, jj, jj, jj, jj, jj, jj, jj, jj, jj, jj, jj, jj, jj, jj, jj, jj, jj, jj, jj, jj, jj, jj, jj, jj, jj, jj, jj, jj, jj, jj, jj, jj, jj, jj, jj, jj, jj, jj, jj, jj, jj, jj, jj, jj, jj, jj, jj, jj, jj, jj, jj, jj, jj, jj, jj, jj, jj, jj, jj, jj, jj, jj, jj, jj, jj, jj, jj, jj] [AO.box [AV.int IntKind.i64 (0 : Int), AV.str [], AV.str []], AO.box [AV.int IntKind.i64 (Prod.snd (Prod.snd t_137)), AV.str [], AV.str [(48 : UInt8)]], AO.box [AV.int IntKind.i64 (0 : Int), AV.str [], AV.str []]] (0 : Nat))) (cellarerref05_Parse_res r) (cellarerref05_Parse_out r))) t) h (fun t h => ?_) (fun t165 h165 K165 => ?_)
    ·
      rcases t with t_133 | t_137
      · replace h := W.inl (h)
        refine W.elimL (?_)
        exact (Option.some.inj h).symm
      · replace h := W.inr (h)
        refine W.elimR (?_)
        refine W.bind h fun a_138 ha_138 h => ?_
        refine W.call 0 100000 (by kernel_rfl) (cellarerref05_at_con ha_138) (by kernel_rfl) ?_
        refine W.join (fun t_141 => Walk Go.Proofs.Tryd.prog 11 (Cfg.mk Mode.run (seqTodo Go.Proofs.Tryd.prog 11 25) (St.mk [jj, jj, AV.ptr (0 : Nat) (0 : Nat), jj, AV.ptr (1 : Nat) (0 : Nat), AV.ptr (2 : Nat) (0 : Nat), jj, AV.str (Prod.fst t_137), jj, jj, jj, jj, jj, jj, jj, jj, jj, jj, jj, jj, jj, jj, jj, jj, jj, jj, jj, jj, jj, jj, jj, jj, jj, jj, jj, jj, jj, jj, jj, jj, jj, jj, jj, jj, jj, jj, jj, jj, jj, jj, jj, jj, jj, jj, jj, jj, jj, jj, jj, jj, jj, jj, jj, jj, jj, jj, jj, jj, jj, jj, jj, jj, jj, jj, jj, jj, jj, jj, jj, jj, jj, jj, jj, jj, jj, jj, jj, jj, jj, jj, jj, jj, jj, jj, jj, jj, jj, jj, jj] [AO.box [AV.int IntKind.i64 (0 : Int), AV.str [], AV.str []], AO.box [AV.int IntKind.i64 (Prod.snd (Prod.snd t_137)), AV.str (Prod.fst t_141), AV.str (Prod.snd t_141)], AO.box [AV.int IntKind.i64 (0 : Int), AV.str [], AV.str []]] (0 : Nat))) (cellarerref05_Parse_res r) (cellarerref05_Parse_out r)) h (fun t_141 h => ?_) (fun t164 h164 K164 => ?_)
        ·
          refine W.cond 0 100000 h (by kernel_rfl) (fun h => ?_) (fun h => ?_)
          ·
            refine W.yes 0 100000 (by kernel_rfl) ?_
            refine W.yes 0 100000 (by kernel_rfl) ?_
            refine W.yes 0 100000 (by kernel_rfl) ?_
            refine W.yes 0 100000 (by kernel_rfl) ?_
            refine W.yes 0 100000 (by kernel_rfl) ?_
            refine W.yes 0 100000 (by kernel_rfl) ?_
            refine W.yes 0 100000 (by kernel_rfl) ?_
            refine W.yes 0 100000 (by kernel_rfl) ?_
            refine W.yes 0 100000 (by kernel_rfl) ?_
            refine W.yes 0 100000 (by kernel_rfl) ?_
            refine W.yes 0 100000 (by kernel_rfl) ?_
            refine W.yes 0 100000 (by kernel_rfl) ?_
            refine W.yes 0 100000 (by kernel_rfl) ?_
            refine W.yes 0 100000 (by kernel_rfl) ?_
            refine W.yes 0 100000 (by kernel_rfl) ?_
            refine W.yes 0 100000 (by kernel_rfl) ?_
            refine W.yes 0 100000 (by kernel_rfl) ?_
            refine W.yes 0 100000 (by kernel_rfl) ?_
            refine W.yes 0 100000 (by kernel_rfl) ?_
            refine W.yes 0 100000 (by kernel_rfl) ?_
            refine W.yes 0 100000 (by kernel_rfl) ?_
            exact W.retT 0 100000 h (by kernel_rfl)
          ·
            refine W.no 0 100000 (by kernel_rfl) ?_
            refine W.no 0 100000 (by kernel_rfl) ?_
            refine W.needT 0 100000 h (by kernel_rfl) (fun h => ?_)
            refine W.no 0 100000 (by kernel_rfl) ?_
            refine W.bind h fun a_142 ha_142 h => ?_
            refine W.call 0 100000 (by kernel_rfl) (cellarerref05_Digit_con ha_142) (by kernel_rfl) ?_
            refine W.no 0 100000 (by kernel_rfl) ?_
            refine W.no 0 100000 (by kernel_rfl) ?_
            refine W.cond 0 100000 h (by kernel_rfl) (fun h => ?_) (fun h => ?_)
            ·
              refine W.yes 0 100000 (by kernel_rfl) ?_
              refine W.yes 0 100000 (by kernel_rfl) ?_
              refine W.yes 0 100000 (by kernel_rfl) ?_
              refine W.yes 0 100000 (by kernel_rfl) ?_
              refine W.yes 0 100000 (by kernel_rfl) ?_
              refine W.yes 0 100000 (by kernel_rfl) ?_
              refine W.yes 0 100000 (by kernel_rfl) ?_
              refine W.yes 0 100000 (by kernel_rfl) ?_
              refine W.yes 0 100000 (by kernel_rfl) ?_
              refine W.yes 0 100000 (by kernel_rfl) ?_
              refine W.yes 0 100000 (by kernel_rfl) ?_
              refine W.yes 0 100000 (by kernel_rfl) ?_
              refine W.yes 0 100000 (by kernel_rfl) ?_
              refine W.yes 0 100000 (by kernel_rfl) ?_
              refine W.yes 0 100000 (by kernel_rfl) ?_
              exact W.retT 0 100000 h (by kernel_rfl)
            ·
              refine W.no 0 100000 (by kernel_rfl) ?_
              refine W.no 0 100000 (by kernel_rfl) ?_
              refine W.no 0 100000 (by kernel_rfl) ?_
              refine W.bind h fun a_161 ha_161 h => ?_
              refine W.call 0 100000 (by kernel_rfl) (cellarerref05_only_con ha_161) (by kernel_rfl) ?_
              refine W.no 0 100000 (by kernel_rfl) ?_
              refine W.no 0 100000 (by kernel_rfl) ?_
              refine W.cond 0 100000 h (by kernel_rfl) (fun h => ?_) (fun h => ?_)
              ·
                refine W.yes 0 100000 (by kernel_rfl) ?_
                refine W.yes 0 100000 (by kernel_rfl) ?_
                refine W.yes 0 100000 (by kernel_rfl) ?_
                refine W.yes 0 100000 (by kernel_rfl) ?_
                refine W.yes 0 100000 (by kernel_rfl) ?_
                refine W.yes 0 100000 (by kernel_rfl) ?_
                refine W.yes 0 100000 (by kernel_rfl) ?_
                refine W.yes 0 100000 (by kernel_rfl) ?_
                refine W.yes 0 100000 (by kernel_rfl) ?_
                exact W.retT 0 100000 h (by kernel_rfl)
              ·
                refine W.no 0 100000 (by kernel_rfl) ?_
                refine W.no 0 100000 (by kernel_rfl) ?_
                refine W.no 0 100000 (by kernel_rfl) ?_
                refine W.cond 0 100000 h (by kernel_rfl) (fun h => ?_) (fun h => ?_)
                ·
                  refine W.yes 0 100000 (by kernel_rfl) ?_
                  refine W.yes 0 100000 (by kernel_rfl) ?_
                  refine W.yes 0 100000 (by kernel_rfl) ?_
                  refine W.yes 0 100000 (by kernel_rfl) ?_
                  refine W.yes 0 100000 (by kernel_rfl) ?_
                  exact W.retT 0 100000 h (by kernel_rfl)
                ·
                  refine W.no 0 100000 (by kernel_rfl) ?_
                  refine W.no 0 100000 (by kernel_rfl) ?_
                  refine W.bind h fun a_162 ha_162 h => ?_
                  refine W.call 0 100000 (by kernel_rfl) (cellarerref05_only_con ha_162) (by kernel_rfl) ?_
                  refine W.no 0 100000 (by kernel_rfl) ?_
                  refine W.no 0 100000 (by kernel_rfl) ?_
                  refine W.cond 0 100000 h (by kernel_rfl) (fun h => ?_) (fun h => ?_)
                  ·
                    exact W.retT 0 100000 h (by kernel_rfl)
                  ·
                    exact W.retT 0 100000 h (by kernel_rfl)
        · refine W.next 0 3 (by kernel_rfl) ?_
          refine W.cond 1 100000 h164 (by kernel_rfl) (fun h164 => ?_) (fun h164 => ?_)
          ·
            refine W.needT 1 100000 h164 (by kernel_rfl) (fun h164 => ?_)
            refine W.needT 1 100000 h164 (by kernel_rfl) (fun h164 => ?_)
            cases h164; exact W.at 1 100000 [] [2, 4, 5, 7] (by kernel_rfl) K164
          ·
            cases h164; exact W.at 1 100000 [] [2, 4, 5, 7] (by kernel_rfl) K164
    · refine W.next 0 12 (by kernel_rfl) ?_
      refine W.cond 1 100000 h165 (by kernel_rfl) (fun h165 => ?_) (fun h165 => ?_)
      ·
        refine W.needT 1 100000 h165 (by kernel_rfl) (fun h165 => ?_)
        refine W.join (fun t => (Sum.elim (fun t_108 => r = ((0 : Int), [], [], (2 : Int))) (fun t_109 => Walk Go.Proofs.Tryd.prog 11 (Cfg.mk Mode.run (seqTodo Go.Proofs.Tryd.prog 11 13) (St.mk [AV.str s_91, jj, AV.ptr (0 : Nat) (0 : Nat), jj, AV.ptr (1 : Nat) (0 : Nat), AV.ptr (2 : Nat) (0 : Nat), AV.int IntKind.i64 a_107, AV.str [(46 : UInt8), (43 : UInt8), (45 : UInt8), (126 : UInt8), (58 : UInt8)], AV.str (List.drop (Int.toNat (IntKind.wrap IntKind.i64 (a_107 + (1 : Int)))) (List.take (Int.toNat (↑(List.length s_91) : Int)) s_91)), jj, jj, jj, jj, jj, jj, jj, jj, jj, jj, jj, jj, jj, jj, jj, jj, jj, jj, jj, jj, jj, jj, jj, jj, jj, jj, jj, jj, jj, jj, jj, jj, jj, jj, jj, jj, jj, jj, jj, jj, jj, jj, jj, jj, jj, jj, jj, jj, jj, jj, jj, jj, jj, jj, jj, jj, jj, jj, jj, jj, jj, jj, jj, jj, jj, jj, jj, jj, jj, jj, jj, jj, jj, jj, jj, jj, jj, jj, jj, jj, jj, jj, jj, jj, jj, jj, jj, jj, jj, jj] [AO.box [AV.int IntKind.i64 (0 : Int), AV.str [], AV.str []], AO.box [AV.int IntKind.i64 (0 : Int), AV.str [], AV.str [(48 : UInt8)]], AO.box [AV.int IntKind.i64 (0 : Int), AV.str [], AV.str []]] (0 : Nat))) (cellarerref05_Parse_res r) (cellarerref05_Parse_out r))) t) h165 (fun t h165 => ?_) (fun t133 h133 K133 => ?_)
        ·
          rcases t with t_108 | t_109
          · replace h165 := W.inl (h165)
            refine W.elimL (?_)
            cases h165; exact K165
          · replace h165 := W.inr (h165)
            refine W.elimR (?_)
            refine W.at 1 100000 [] [0, 2, 4, 5, 6, 7, 8, 9] (c' := (fun (s_171 : Int × Int) => (Cfg.mk Mode.run (headTodo Go.Proofs.Tryd.prog 11 0) (St.mk [AV.str s_91, jj, AV.ptr (0 : Nat) (0 : Nat), jj, AV.ptr (1 : Nat) (0 : Nat), AV.ptr (2 : Nat) (0 : Nat), AV.int IntKind.i64 a_107, AV.str [(46 : UInt8), (43 : UInt8), (45 : UInt8), (126 : UInt8), (58 : UInt8)], AV.str (List.drop (Int.toNat (IntKind.wrap IntKind.i64 (a_107 + (1 : Int)))) (List.take (Int.toNat (↑(List.length s_91) : Int)) s_91)), AV.int IntKind.i64 (Prod.fst s_171), jj, jj, jj, jj, jj, jj, jj, jj, jj, jj, jj, jj, jj, jj, jj, jj, jj, jj, jj, jj, jj, jj, jj, jj, jj, jj, jj, jj, jj, jj, jj, jj, jj, jj, jj, jj, jj, jj, jj, jj, jj, jj, jj, jj, jj, jj, jj, jj, jj, jj, jj, jj, jj, jj, jj, jj, jj, jj, jj, jj, jj, jj, jj, jj, jj, jj, jj, jj, jj, jj, jj, jj, jj, jj, jj, jj, jj, jj, jj, jj, jj, jj, jj, jj, jj, jj, jj, jj, jj] [AO.box [AV.int IntKind.i64 (0 : Int), AV.str [], AV.str []], AO.box [AV.int IntKind.i64 (Prod.snd s_171), AV.str [], AV.str [(48 : UInt8)]], AO.box [AV.int IntKind.i64 (0 : Int), AV.str [], AV.str []]] (0 : Nat)))) ((0 : Int), (0 : Int))) (by kernel_rfl) ?_
            refine W.loop (fun (s_171 : Int × Int) => (Cfg.mk Mode.run (headTodo Go.Proofs.Tryd.prog 11 0) (St.mk [AV.str s_91, jj, AV.ptr (0 : Nat) (0 : Nat), jj, AV.ptr (1 : Nat) (0 : Nat), AV.ptr (2 : Nat) (0 : Nat), AV.int IntKind.i64 a_107, AV.str [(46 : UInt8), (43 : UInt8), (45 : UInt8), (126 : UInt8), (58 : UInt8)], AV.str (List.drop (Int.toNat (IntKind.wrap IntKind.i64 (a_107 + (1 : Int)))) (List.take (Int.toNat (↑(List.length s_91) : Int)) s_91)), AV.int IntKind.i64 (Prod.fst s_171), jj, jj, jj, jj, jj, jj, jj, jj, jj, jj, jj, jj, jj, jj, jj, jj, jj, jj, jj, jj, jj, jj, jj, jj, jj, jj, jj, jj, jj, jj, jj, jj, jj, jj, jj, jj, jj, jj, jj, jj, jj, jj, jj, jj, jj, jj, jj, jj, jj, jj, jj, jj, jj, jj, jj, jj, jj, jj, jj, jj, jj, jj, jj, jj, jj, jj, jj, jj, jj, jj, jj, jj, jj, jj, jj, jj, jj, jj, jj, jj, jj, jj, jj, jj, jj, jj, jj, jj, jj] [AO.box [AV.int IntKind.i64 (0 : Int), AV.str [], AV.str []], AO.box [AV.int IntKind.i64 (Prod.snd s_171), AV.str [], AV.str [(48 : UInt8)]], AO.box [AV.int IntKind.i64 (0 : Int), AV.str [], AV.str []]] (0 : Nat)))) (fun t => (Sum.elim (fun t_128 => r = ((0 : Int), [], [], (2 : Int))) (fun t_130 => Walk Go.Proofs.Tryd.prog 11 (Cfg.mk Mode.run ((headTodo Go.Proofs.Tryd.prog 11 0).drop 3) (St.mk [jj, jj, AV.ptr (0 : Nat) (0 : Nat), jj, AV.ptr (1 : Nat) (0 : Nat), AV.ptr (2 : Nat) (0 : Nat), jj, AV.str [(46 : UInt8), (43 : UInt8), (45 : UInt8), (126 : UInt8), (58 : UInt8)], AV.str (List.drop (Int.toNat (IntKind.wrap IntKind.i64 (a_107 + (1 : Int)))) (List.take (Int.toNat (↑(List.length s_91) : Int)) s_91)), jj, jj, jj, jj, jj, jj, jj, jj, jj, jj, jj, jj, jj, jj, jj, jj, jj, jj, jj, jj, jj, jj, jj, jj, jj, jj, jj, jj, jj, jj, jj, jj, jj, jj, jj, jj, jj, jj, jj, jj, jj, jj, jj, jj, jj, jj, jj, jj, jj, jj, jj, jj, jj, jj, jj, jj, jj, jj, jj, jj, jj, jj, jj, jj, jj, jj, jj, jj, jj, jj, jj, jj, jj, jj, jj, jj, jj, jj, jj, jj, jj, jj, jj, jj, jj, jj, jj, jj, jj, jj] [AO.box [AV.int IntKind.i64 (0 : Int), AV.str [], AV.str []], AO.box [AV.int IntKind.i64 t_130, AV.str [], AV.str [(48 : UInt8)]], AO.box [AV.int IntKind.i64 (0 : Int), AV.str [], AV.str []]] (0 : Nat))) (cellarerref05_Parse_res r) (cellarerref05_Parse_out r))) t) h165 (fun t h165 => ?_) (fun s_171 x132 h132 K132 => ?_)
            ·
              rcases t with t_128 | t_130
              · replace h165 := W.inl (h165)
                refine W.elimL (?_)
                cases h165; exact K165
              · replace h165 := W.inr (h165)
                refine W.elimR (?_)
                cases h165; exact W.at 1 100000 [] [2, 4, 5, 7, 8] (by kernel_rfl) K165
            · unfold cellarerref05_Parse_b0 at h132
              refine W.cond 2 100000 h132 (by kernel_rfl) (fun h132 => ?_) (fun h132 => ?_)
              ·
                refine W.needT 2 100000 h132 (by kernel_rfl) (fun h132 => ?_)
                refine W.bind h132 fun a_127 ha_127 h132 => ?_
                refine W.call 2 100000 (by kernel_rfl) (cellarerref05_Digit_con ha_127) (by kernel_rfl) ?_
                refine W.cond 2 100000 h132 (by kernel_rfl) (fun h132 => ?_) (fun h132 => ?_)
                ·
                  cases h132; exact W.retK 2 100000 K132 (by kernel_rfl)
                ·
                  refine W.needT 2 100000 h132 (by kernel_rfl) (fun h132 => ?_)
                  cases h132; exact W.at 2 100000 [] [0, 2, 4, 5, 6, 7, 8, 9] (by kernel_rfl) K132
              ·
                cases h132; exact W.at 2 100000 [] [2, 4, 5, 7, 8] (by kernel_rfl) K132
        · refine W.next 1 3 (by kernel_rfl) ?_
          refine W.cond 2 100000 h133 (by kernel_rfl) (fun h133 => ?_) (fun h133 => ?_)
          ·
            refine W.yes 2 100000 (by kernel_rfl) ?_
            refine W.yes 2 100000 (by kernel_rfl) ?_
            refine W.yes 2 100000 (by kernel_rfl) ?_
            cases h133; exact W.retK 2 100000 K133 (by kernel_rfl)
          ·
            refine W.no 2 100000 (by kernel_rfl) ?_
            refine W.no 2 100000 (by kernel_rfl) ?_
            refine W.cond 2 100000 h133 (by kernel_rfl) (fun h133 => ?_) (fun h133 => ?_)
            ·
              cases h133; exact W.retK 2 100000 K133 (by kernel_rfl)
            ·
              cases h133; exact W.at 2 100000 [] [0, 2, 4, 5, 6, 7, 8] (by kernel_rfl) K133
      ·
        cases h165; exact W.at 1 100000 [] [2, 4, 5, 7, 8] (by kernel_rfl) K165

theorem bits_Text_con {n_176 : Int} {r : List UInt8} (h : bits_Text n_176 = some r) : Con Go.Proofs.Tryd.prog 29 [AV.int IntKind.i64 n_176] [] (bits_Text_res r) (bits_Text_out r) := by
  refine W.con (by kernel_rfl) ?_
  unfold bits_Text at h
  refine W.join (fun t_178 => Walk Go.Proofs.Tryd.prog 29 (Cfg.mk Mode.run (seqTodo Go.Proofs.Tryd.prog 29 2) (St.mk [AV.int IntKind.i64 n_176, jj, jj, AV.int IntKind.u64 t_178, jj, jj, jj, jj, jj, jj, jj, jj, jj, jj, jj, jj, jj, jj, jj, jj, jj, jj, jj, jj, jj, jj, jj, jj, jj, jj, jj, jj, jj, jj, jj, jj, jj] [] (0 : Nat))) (bits_Text_res r) (bits_Text_out r)) h (fun t_178 h => ?_) (fun t191 h191 K191 => ?_)
  ·
    refine W.at 0 100000 [] [0, 3, 4, 5] (c' := (fun (s_194 : Int × Int × List Int) => (Cfg.mk Mode.run (headTodo Go.Proofs.Tryd.prog 29 0) (St.mk [AV.int IntKind.i64 n_176, jj, jj, AV.int IntKind.u64 (Prod.fst s_194), AV.ptr (0 : Nat) (0 : Nat), AV.int IntKind.i64 (Prod.fst (Prod.snd s_194)), jj, jj, jj, jj, jj, jj, jj, jj, jj, jj, jj, jj, jj, jj, jj, jj, jj, jj, jj, jj, jj, jj, jj, jj, jj, jj, jj, jj, jj, jj, jj] [AO.arr (Ty.int IntKind.u8) (Prod.snd (Prod.snd s_194))] (0 : Nat)))) (t_178, (20 : Int), List.replicate (20 : Nat) (0 : Int))) (by kernel_rfl) ?_
    refine W.loop (fun (s_194 : Int × Int × List Int) => (Cfg.mk Mode.run (headTodo Go.Proofs.Tryd.prog 29 0) (St.mk [AV.int IntKind.i64 n_176, jj, jj, AV.int IntKind.u64 (Prod.fst s_194), AV.ptr (0 : Nat) (0 : Nat), AV.int IntKind.i64 (Prod.fst (Prod.snd s_194)), jj, jj, jj, jj, jj, jj, jj, jj, jj, jj, jj, jj, jj, jj, jj, jj, jj, jj, jj, jj, jj, jj, jj, jj, jj, jj, jj, jj, jj, jj, jj] [AO.arr (Ty.int IntKind.u8) (Prod.snd (Prod.snd s_194))] (0 : Nat)))) (fun t_188 => Walk Go.Proofs.Tryd.prog 29 (Cfg.mk Mode.run ((headTodo Go.Proofs.Tryd.prog 29 0).drop 3) (St.mk [AV.int IntKind.i64 n_176, jj, jj, jj, AV.ptr (0 : Nat) (0 : Nat), AV.int IntKind.i64 (Prod.fst t_188), jj, jj, jj, jj, jj, jj, jj, jj, jj, jj, jj, jj, jj, jj, jj, jj, jj, jj, jj, jj, jj, jj, jj, jj, jj, jj, jj, jj, jj, jj, jj] [AO.arr (Ty.int IntKind.u8) (Prod.snd t_188)] (0 : Nat))) (bits_Text_res r) (bits_Text_out r)) h (fun t_188 h => ?_) (fun s_194 x190 h190 K190 => ?_)
    ·
      refine W.cond 0 100000 h (by kernel_rfl) (fun h => ?_) (fun h => ?_)
      ·
        refine W.needT 0 100000 h (by kernel_rfl) (fun h => ?_)
        refine W.needT 0 100000 h (by kernel_rfl) (fun h => ?_)
        exact W.retT 0 100000 h (by kernel_rfl)
      ·
        refine W.needT 0 100000 h (by kernel_rfl) (fun h => ?_)
        exact W.retT 0 100000 h (by kernel_rfl)
    · unfold bits_Text_b0 at h190
      refine W.join (fun t => (Sum.elim (fun t_183 => Walk Go.Proofs.Tryd.prog 29 (Cfg.mk Mode.run (seqTodo Go.Proofs.Tryd.prog 29 7) (St.mk [AV.int IntKind.i64 n_176, jj, jj, AV.int IntKind.u64 (Prod.fst s_194), AV.ptr (0 : Nat) (0 : Nat), AV.int IntKind.i64 (Prod.fst (Prod.snd s_194)), jj, jj, jj, jj, jj, jj, jj, jj, jj, jj, jj, jj, jj, jj, jj, jj, jj, jj, jj, jj, jj, jj, jj, jj, jj, jj, jj, jj, jj, jj, jj] [AO.arr (Ty.int IntKind.u8) (Prod.snd (Prod.snd s_194))] (0 : Nat))) (bits_Text_res r) (bits_Text_out r)) (fun t_184 => Walk Go.Proofs.Tryd.prog 29 (Cfg.mk Mode.run ((seqTodo Go.Proofs.Tryd.prog 29 7).drop 3) (St.mk [AV.int IntKind.i64 n_176, jj, jj, jj, AV.ptr (0 : Nat) (0 : Nat), AV.int IntKind.i64 (Prod.fst (Prod.snd s_194)), jj, jj, jj, jj, jj, jj, jj, jj, jj, jj, jj, jj, jj, jj, jj, jj, jj, jj, jj, jj, jj, jj, jj, jj, jj, jj, jj, jj, jj, jj, jj] [AO.arr (Ty.int IntKind.u8) (Prod.snd (Prod.snd s_194))] (0 : Nat))) (bits_Text_res r) (bits_Text_out r))) t) h190 (fun t h190 => ?_) (fun t186 h186 K186 => ?_)
      ·
        rcases t with t_183 | t_184
        · replace h190 := W.inl (h190)
          refine W.elimL (?_)
          refine W.need 2 100000 (p := (10 : Int) ≠ (0 : Int)) (by kernel_rfl) (by decide) ?_
          refine W.needT 2 100000 h190 (by kernel_rfl) (fun h190 => ?_)
          refine W.needT 2 100000 h190 (by kernel_rfl) (fun h190 => ?_)
          refine W.need 2 100000 (p := (10 : Int) ≠ (0 : Int)) (by kernel_rfl) (by decide) ?_
          cases h190; exact W.at 2 100000 [] [0, 3, 4, 5] (by kernel_rfl) K190
        · replace h190 := W.inr (h190)
          refine W.elimR (?_)
          cases h190; exact W.at 2 100000 [] [0, 4, 5] (by kernel_rfl) K190
      · refine W.next 2 1 (by kernel_rfl) ?_
        refine W.cond 4 100000 h186 (by kernel_rfl) (fun h186 => ?_) (fun h186 => ?_)
        ·
          refine W.yes 4 100000 (by kernel_rfl) ?_
          refine W.yes 4 100000 (by kernel_rfl) ?_
          refine W.yes 4 100000 (by kernel_rfl) ?_
          cases h186; exact W.at 4 100000 [] [0, 3, 4, 5] (by kernel_rfl) K186
        ·
          refine W.no 4 100000 (by kernel_rfl) ?_
          refine W.no 4 100000 (by kernel_rfl) ?_
          refine W.cond 4 100000 h186 (by kernel_rfl) (fun h186 => ?_) (fun h186 => ?_)
          ·
            cases h186; exact W.at 4 100000 [] [0, 3, 4, 5] (by kernel_rfl) K186
          ·
            cases h186; exact W.at 4 100000 [] [0, 4, 5] (by kernel_rfl) K186
  · refine W.next 0 11 (by kernel_rfl) ?_
    refine W.cond 1 100000 h191 (by kernel_rfl) (fun h191 => ?_) (fun h191 => ?_)
    ·
      cases h191; exact W.at 1 100000 [] [0, 3] (by kernel_rfl) K191
    ·
      cases h191; exact W.at 1 100000 [] [0, 3] (by kernel_rfl) K191

theorem version_Text_con {v_173 : Int} {v_174 : List UInt8} {v_175 : List UInt8} {r : List UInt8} (h : version_Text v_173 v_174 v_175 = some r) : Con Go.Proofs.Tryd.prog 12 [AV.agg [AV.int IntKind.i64 v_173, AV.str v_174, AV.str v_175]] [] (version_Text_res r) (version_Text_out r) := by
  refine W.con (by kernel_rfl) ?_
  unfold version_Text at h
  refine W.join (fun t_199 => Walk Go.Proofs.Tryd.prog 12 (Cfg.mk Mode.run (seqTodo Go.Proofs.Tryd.prog 12 2) (St.mk [jj, AV.ptr (0 : Nat) (0 : Nat), jj, AV.str t_199, jj, jj, jj, jj, jj, jj, jj, jj, jj, jj, jj, jj, jj, jj, jj, jj, jj, jj, jj, jj, jj, jj, jj, jj, jj, jj, jj, jj, jj, jj, jj, jj, jj] [AO.box [AV.int IntKind.i64 v_173, AV.str v_174, AV.str v_175]] (0 : Nat))) (version_Text_res r) (version_Text_out r)) h (fun t_199 h => ?_) (fun t202 h202 K202 => ?_)
  ·
    refine W.cond 0 100000 h (by kernel_rfl) (fun h => ?_) (fun h => ?_)
    ·
      refine W.yes 0 100000 (by kernel_rfl) ?_
      refine W.yes 0 100000 (by kernel_rfl) ?_
      refine W.yes 0 100000 (by kernel_rfl) ?_
      refine W.yes 0 100000 (by kernel_rfl) ?_
      refine W.yes 0 100000 (by kernel_rfl) ?_
      refine W.needT 0 100000 h (by kernel_rfl) (fun h => ?_)
      refine W.needT 0 100000 h (by kernel_rfl) (fun h => ?_)
      exact W.retT 0 100000 h (by kernel_rfl)
    ·
      refine W.no 0 100000 (by kernel_rfl) ?_
      refine W.no 0 100000 (by kernel_rfl) ?_
      refine W.bind h fun a_200 ha_200 h => ?_
      refine W.call 0 100000 (by kernel_rfl) (strings_IndexByte_con ha_200) (by kernel_rfl) ?_
      refine W.no 0 100000 (by kernel_rfl) ?_
      refine W.no 0 100000 (by kernel_rfl) ?_
      refine W.cond 0 100000 h (by kernel_rfl) (fun h => ?_) (fun h => ?_)
      ·
        refine W.needT 0 100000 h (by kernel_rfl) (fun h => ?_)
        refine W.needT 0 100000 h (by kernel_rfl) (fun h => ?_)
        exact W.retT 0 100000 h (by kernel_rfl)
      ·
        exact W.retT 0 100000 h (by kernel_rfl)
  · refine W.next 0 12 (by kernel_rfl) ?_
    refine W.cond 1 100000 h202 (by kernel_rfl) (fun h202 => ?_) (fun h202 => ?_)
    ·
      refine W.yes 1 100000 (by kernel_rfl) ?_
      refine W.yes 1 100000 (by kernel_rfl) ?_
      refine W.yes 1 100000 (by kernel_rfl) ?_
      refine W.yes 1 100000 (by kernel_rfl) ?_
      refine W.yes 1 100000 (by kernel_rfl) ?_
      refine W.bind h202 fun a_195 ha_195 h202 => ?_
      refine W.call 1 100000 (by kernel_rfl) (bits_Text_con ha_195) (by kernel_rfl) ?_
      refine W.needT 1 100000 h202 (by kernel_rfl) (fun h202 => ?_)
      refine W.needT 1 100000 h202 (by kernel_rfl) (fun h202 => ?_)
      cases h202; exact W.at 1 100000 [] [1, 3] (by kernel_rfl) K202
    ·
      refine W.no 1 100000 (by kernel_rfl) ?_
      refine W.no 1 100000 (by kernel_rfl) ?_
      refine W.bind h202 fun a_196 ha_196 h202 => ?_
      refine W.call 1 100000 (by kernel_rfl) (strings_IndexByte_con ha_196) (by kernel_rfl) ?_
      refine W.no 1 100000 (by kernel_rfl) ?_
      refine W.no 1 100000 (by kernel_rfl) ?_
      refine W.cond 1 100000 h202 (by kernel_rfl) (fun h202 => ?_) (fun h202 => ?_)
      ·
        refine W.bind h202 fun a_197 ha_197 h202 => ?_
        refine W.call 1 100000 (by kernel_rfl) (bits_Text_con ha_197) (by kernel_rfl) ?_
        refine W.needT 1 100000 h202 (by kernel_rfl) (fun h202 => ?_)
        refine W.needT 1 100000 h202 (by kernel_rfl) (fun h202 => ?_)
        cases h202; exact W.at 1 100000 [] [1, 3] (by kernel_rfl) K202
      ·
        cases h202; exact W.at 1 100000 [] [1, 3] (by kernel_rfl) K202

theorem version_parsed_con {s_208 : List UInt8} {r : Int × List UInt8 × List UInt8} (h : version_parsed s_208 = some r) : Con Go.Proofs.Tryd.prog 30 [AV.str s_208] [] (version_parsed_res r) (version_parsed_out r) := by
  refine W.con (by kernel_rfl) ?_
  unfold version_parsed at h
  refine W.bind h fun a_209 ha_209 h => ?_
  refine W.call 0 100000 (by kernel_rfl) (version_Parse_con ha_209) (by kernel_rfl) ?_
  refine W.cond 0 100000 h (by kernel_rfl) (fun h => ?_) (fun h => ?_)
  ·
    exact W.retT 0 100000 h (by kernel_rfl)
  ·
    exact W.retT 0 100000 h (by kernel_rfl)

theorem cmp_isNaN_int__con {x_218 : Int} {r : Bool} (h : cmp_isNaN_int_ x_218 = some r) : Con Go.Proofs.Tryd.prog 43 [AV.int IntKind.i64 x_218] [] (cmp_isNaN_int__res r) (cmp_isNaN_int__out r) := by
  refine W.con (by kernel_rfl) ?_
  unfold cmp_isNaN_int_ at h
  exact W.retT 0 100000 h (by kernel_rfl)

theorem cmp_Compare_int__con {x_216 : Int} {y_217 : Int} {r : Int} (h : cmp_Compare_int_ x_216 y_217 = some r) : Con Go.Proofs.Tryd.prog 31 [AV.int IntKind.i64 x_216, AV.int IntKind.i64 y_217] [] (cmp_Compare_int__res r) (cmp_Compare_int__out r) := by
  refine W.con (by kernel_rfl) ?_
  unfold cmp_Compare_int_ at h
  refine W.bind h fun a_221 ha_221 h => ?_
  refine W.call 0 100000 (by kernel_rfl) (cmp_isNaN_int__con ha_221) (by kernel_rfl) ?_
  refine W.bind h fun a_222 ha_222 h => ?_
  refine W.call 0 100000 (by kernel_rfl) (cmp_isNaN_int__con ha_222) (by kernel_rfl) ?_
  refine W.cond 0 100000 h (by kernel_rfl) (fun h => ?_) (fun h => ?_)
  ·
    refine W.cond 0 100000 h (by kernel_rfl) (fun h => ?_) (fun h => ?_)
    ·
      exact W.retT 0 100000 h (by kernel_rfl)
    ·
      exact W.retT 0 100000 h (by kernel_rfl)
  ·
    refine W.cond 0 100000 h (by kernel_rfl) (fun h => ?_) (fun h => ?_)
    ·
      exact W.retT 0 100000 h (by kernel_rfl)
    ·
      refine W.cond 0 100000 h (by kernel_rfl) (fun h => ?_) (fun h => ?_)
      ·
        exact W.retT 0 100000 h (by kernel_rfl)
      ·
        refine W.cond 0 100000 h (by kernel_rfl) (fun h => ?_) (fun h => ?_)
        ·
          exact W.retT 0 100000 h (by kernel_rfl)
        ·
          exact W.retT 0 100000 h (by kernel_rfl)

theorem version_weight_con {s_241 : List UInt8} {i_242 : Int} {r : Int} (h : version_weight s_241 i_242 = some r) : Con Go.Proofs.Tryd.prog 33 [AV.str s_241, AV.int IntKind.i64 i_242] [] (version_weight_res r) (version_weight_out r) := by
  refine W.con (by kernel_rfl) ?_
  unfold version_weight at h
  refine W.cond 0 100000 h (by kernel_rfl) (fun h => ?_) (fun h => ?_)
  ·
    refine W.yes 0 100000 (by kernel_rfl) ?_
    refine W.yes 0 100000 (by kernel_rfl) ?_
    refine W.yes 0 100000 (by kernel_rfl) ?_
    refine W.yes 0 100000 (by kernel_rfl) ?_
    refine W.yes 0 100000 (by kernel_rfl) ?_
    exact W.retT 0 100000 h (by kernel_rfl)
  ·
    refine W.no 0 100000 (by kernel_rfl) ?_
    refine W.no 0 100000 (by kernel_rfl) ?_
    refine W.needT 0 100000 h (by kernel_rfl) (fun h => ?_)
    refine W.no 0 100000 (by kernel_rfl) ?_
    refine W.bind h fun a_243 ha_243 h => ?_
    refine W.call 0 100000 (by kernel_rfl) (version_digit_con ha_243) (by kernel_rfl) ?_
    refine W.no 0 100000 (by kernel_rfl) ?_
    refine W.cond 0 100000 h (by kernel_rfl) (fun h => ?_) (fun h => ?_)
    ·
      exact W.retT 0 100000 h (by kernel_rfl)
    ·
      refine W.needT 0 100000 h (by kernel_rfl) (fun h => ?_)
      refine W.cond 0 100000 h (by kernel_rfl) (fun h => ?_) (fun h => ?_)
      ·
        exact W.retT 0 100000 h (by kernel_rfl)
      ·
        refine W.needT 0 100000 h (by kernel_rfl) (fun h => ?_)
        refine W.bind h fun a_244 ha_244 h => ?_
        refine W.call 0 100000 (by kernel_rfl) (version_letter_con ha_244) (by kernel_rfl) ?_
        refine W.cond 0 100000 h (by kernel_rfl) (fun h => ?_) (fun h => ?_)
        ·
          refine W.needT 0 100000 h (by kernel_rfl) (fun h => ?_)
          exact W.retT 0 100000 h (by kernel_rfl)
        ·
          refine W.needT 0 100000 h (by kernel_rfl) (fun h => ?_)
          exact W.retT 0 100000 h (by kernel_rfl)

theorem strings_trimLeftByte_con {s_272 : List UInt8} {c_273 : Int} {r : List UInt8} (h : strings_trimLeftByte s_272 c_273 = some r) : Con Go.Proofs.Tryd.prog 48 [AV.str s_272, AV.int IntKind.u8 c_273] [] (strings_trimLeftByte_res r) (strings_trimLeftByte_out r) := by
  refine W.con (by kernel_rfl) ?_
  unfold strings_trimLeftByte at h
  refine W.at 0 100000 [] [0, 1] (c' := (fun (s_285 : List UInt8) => (Cfg.mk Mode.run (headTodo Go.Proofs.Tryd.prog 48 0) (St.mk [AV.str s_285, AV.int IntKind.u8 c_273, jj, jj, jj, jj, jj, jj, jj, jj, jj, jj, jj, jj, jj, jj, jj] [] (0 : Nat)))) (s_272)) (by kernel_rfl) ?_
  refine W.loop (fun (s_285 : List UInt8) => (Cfg.mk Mode.run (headTodo Go.Proofs.Tryd.prog 48 0) (St.mk [AV.str s_285, AV.int IntKind.u8 c_273, jj, jj, jj, jj, jj, jj, jj, jj, jj, jj, jj, jj, jj, jj, jj] [] (0 : Nat)))) (fun t_280 => Walk Go.Proofs.Tryd.prog 48 (Cfg.mk Mode.run ((headTodo Go.Proofs.Tryd.prog 48 0).drop 3) (St.mk [AV.str t_280, jj, jj, jj, jj, jj, jj, jj, jj, jj, jj, jj, jj, jj, jj, jj, jj] [] (0 : Nat))) (strings_trimLeftByte_res r) (strings_trimLeftByte_out r)) h (fun t_280 h => ?_) (fun s_285 x282 h282 K282 => ?_)
  ·
    exact W.retT 0 100000 h (by kernel_rfl)
  · unfold strings_trimLeftByte_b0 at h282
    refine W.join (fun t => (Sum.elim (fun t_276 => Walk Go.Proofs.Tryd.prog 48 (Cfg.mk Mode.run (seqTodo Go.Proofs.Tryd.prog 48 2) (St.mk [AV.str s_285, AV.int IntKind.u8 c_273, jj, jj, jj, jj, jj, jj, jj, jj, jj, jj, jj, jj, jj, jj, jj] [] (0 : Nat))) (strings_trimLeftByte_res r) (strings_trimLeftByte_out r)) (fun t_277 => Walk Go.Proofs.Tryd.prog 48 (Cfg.mk Mode.run ((seqTodo Go.Proofs.Tryd.prog 48 2).drop 3) (St.mk [AV.str s_285, jj, jj, jj, jj, jj, jj, jj, jj, jj, jj, jj, jj, jj, jj, jj, jj] [] (0 : Nat))) (strings_trimLeftByte_res r) (strings_trimLeftByte_out r))) t) h282 (fun t h282 => ?_) (fun t279 h279 K279 => ?_)
    ·
      rcases t with t_276 | t_277
      · replace h282 := W.inl (h282)
        refine W.elimL (?_)
        refine W.needT 2 100000 h282 (by kernel_rfl) (fun h282 => ?_)
        cases h282; exact W.at 2 100000 [] [0, 1] (by kernel_rfl) K282
      · replace h282 := W.inr (h282)
        refine W.elimR (?_)
        cases h282; exact W.at 2 100000 [] [0] (by kernel_rfl) K282
    · refine W.next 2 1 (by kernel_rfl) ?_
      refine W.cond 4 100000 h279 (by kernel_rfl) (fun h279 => ?_) (fun h279 => ?_)
      ·
        refine W.yes 4 100000 (by kernel_rfl) ?_
        refine W.needT 4 100000 h279 (by kernel_rfl) (fun h279 => ?_)
        refine W.yes 4 100000 (by kernel_rfl) ?_
        refine W.yes 4 100000 (by kernel_rfl) ?_
        refine W.yes 4 100000 (by kernel_rfl) ?_
        refine W.cond 4 100000 h279 (by kernel_rfl) (fun h279 => ?_) (fun h279 => ?_)
        ·
          cases h279; exact W.at 4 100000 [] [0, 1] (by kernel_rfl) K279
        ·
          cases h279; exact W.at 4 100000 [] [0] (by kernel_rfl) K279
      ·
        refine W.no 4 100000 (by kernel_rfl) ?_
        refine W.no 4 100000 (by kernel_rfl) ?_
        refine W.no 4 100000 (by kernel_rfl) ?_
        refine W.no 4 100000 (by kernel_rfl) ?_
        refine W.no 4 100000 (by kernel_rfl) ?_
        cases h279; exact W.at 4 100000 [] [0] (by kernel_rfl) K279

theorem strings_TrimLeft_con {s_299 : List UInt8} {r : List UInt8} (h : strings_TrimLeft s_299 = some r) : Con Go.Proofs.Tryd.prog 44 [AV.str s_299, AV.str [(48 : UInt8)]] [] (strings_TrimLeft_res r) (strings_TrimLeft_out r) := by
  refine W.con (by kernel_rfl) ?_
  unfold strings_TrimLeft at h
  refine W.join (fun t => (Sum.elim (fun t_300 => r = (s_299)) (fun t_301 => Walk Go.Proofs.Tryd.prog 44 (Cfg.mk Mode.run (seqTodo Go.Proofs.Tryd.prog 44 1) (St.mk [AV.str s_299, AV.str [(48 : UInt8)], jj, jj, jj, jj, jj, jj, jj, jj, jj, jj, jj, jj, jj, jj, jj, jj, jj, jj, jj, jj, jj, jj, jj, jj, jj, jj, jj, jj, jj, jj, jj, jj, jj, jj, jj] [] (0 : Nat))) (strings_TrimLeft_res r) (strings_TrimLeft_out r))) t) h (fun t h => ?_) (fun t307 h307 K307 => ?_)
  ·
    rcases t with t_300 | t_301
    · replace h := W.inl (h)
      refine W.elimL (?_)
      exact (Option.some.inj h).symm
    · replace h := W.inr (h)
      refine W.elimR (?_)
      refine W.join (fun t_304 => r = (t_304)) h (fun t_304 h => ?_) (fun t306 h306 K306 => ?_)
      ·
        exact (Option.some.inj h).symm
      · refine W.next 0 1 (by kernel_rfl) ?_
        refine W.yes 1 100000 (by kernel_rfl) ?_
        refine W.yes 1 100000 (by kernel_rfl) ?_
        refine W.need 1 100000 (p := (0 : Int) ≤ (0 : Int) ∧ (0 : Int) < (↑(List.length [(48 : UInt8)]) : Int)) (by kernel_rfl) (by decide) ?_
        refine W.yes 1 100000 (by kernel_rfl) ?_
        refine W.yes 1 100000 (by kernel_rfl) ?_
        refine W.yes 1 100000 (by kernel_rfl) ?_
        refine W.need 1 100000 (p := (0 : Int) ≤ (0 : Int) ∧ (0 : Int) < (↑(List.length [(48 : UInt8)]) : Int)) (by kernel_rfl) (by decide) ?_
        refine W.bind h306 fun a_302 ha_302 h306 => ?_
        refine W.call 1 100000 (by kernel_rfl) (strings_trimLeftByte_con ha_302) (by kernel_rfl) ?_
        cases h306; exact W.retK 1 100000 K306 (by kernel_rfl)
  · refine W.next 0 5 (by kernel_rfl) ?_
    refine W.cond 1 100000 h307 (by kernel_rfl) (fun h307 => ?_) (fun h307 => ?_)
    ·
      refine W.yes 1 100000 (by kernel_rfl) ?_
      refine W.yes 1 100000 (by kernel_rfl) ?_
      refine W.yes 1 100000 (by kernel_rfl) ?_
      cases h307; exact W.retK 1 100000 K307 (by kernel_rfl)
    ·
      refine W.no 1 100000 (by kernel_rfl) ?_
      refine W.no 1 100000 (by kernel_rfl) ?_
      refine W.no 1 100000 (by kernel_rfl) ?_
      cases h307; exact W.at 1 100000 [] [0, 1] (by kernel_rfl) K307

theorem version_number_con {s_257 : List UInt8} {i_258 : Int} {r : List UInt8 × Int} (h : version_number s_257 i_258 = some r) : Con Go.Proofs.Tryd.prog 34 [AV.str s_257, AV.int IntKind.i64 i_258] [] (version_number_res r) (version_number_out r) := by
  refine W.con (by kernel_rfl) ?_
  unfold version_number at h
  refine W.at 0 100000 [] [0, 1, 6] (c' := (fun (s_315 : Int) => (Cfg.mk Mode.run (headTodo Go.Proofs.Tryd.prog 34 0) (St.mk [AV.str s_257, AV.int IntKind.i64 s_315, jj, jj, jj, jj, AV.int IntKind.i64 i_258, jj, jj, jj, jj, jj, jj, jj, jj, jj, jj, jj, jj, jj, jj, jj, jj, jj, jj, jj] [] (0 : Nat)))) (i_258)) (by kernel_rfl) ?_
  refine W.loop (fun (s_315 : Int) => (Cfg.mk Mode.run (headTodo Go.Proofs.Tryd.prog 34 0) (St.mk [AV.str s_257, AV.int IntKind.i64 s_315, jj, jj, jj, jj, AV.int IntKind.i64 i_258, jj, jj, jj, jj, jj, jj, jj, jj, jj, jj, jj, jj, jj, jj, jj, jj, jj, jj, jj] [] (0 : Nat)))) (fun t_267 => Walk Go.Proofs.Tryd.prog 34 (Cfg.mk Mode.run ((headTodo Go.Proofs.Tryd.prog 34 0).drop 3) (St.mk [AV.str s_257, AV.int IntKind.i64 t_267, jj, jj, jj, jj, AV.int IntKind.i64 i_258, jj, jj, jj, jj, jj, jj, jj, jj, jj, jj, jj, jj, jj, jj, jj, jj, jj, jj, jj] [] (0 : Nat))) (version_number_res r) (version_number_out r)) h (fun t_267 h => ?_) (fun s_315 x311 h311 K311 => ?_)
  ·
    refine W.needT 0 100000 h (by kernel_rfl) (fun h => ?_)
    refine W.bind h fun a_309 ha_309 h => ?_
    refine W.call 0 100000 (by kernel_rfl) (strings_TrimLeft_con ha_309) (by kernel_rfl) ?_
    exact W.retT 0 100000 h (by kernel_rfl)
  · unfold version_number_b0 at h311
    refine W.join (fun t => (Sum.elim (fun t_263 => Walk Go.Proofs.Tryd.prog 34 (Cfg.mk Mode.run (seqTodo Go.Proofs.Tryd.prog 34 3) (St.mk [AV.str s_257, AV.int IntKind.i64 s_315, jj, jj, jj, jj, AV.int IntKind.i64 i_258, jj, jj, jj, jj, jj, jj, jj, jj, jj, jj, jj, jj, jj, jj, jj, jj, jj, jj, jj] [] (0 : Nat))) (version_number_res r) (version_number_out r)) (fun t_264 => Walk Go.Proofs.Tryd.prog 34 (Cfg.mk Mode.run ((seqTodo Go.Proofs.Tryd.prog 34 3).drop 3) (St.mk [AV.str s_257, AV.int IntKind.i64 s_315, jj, jj, jj, jj, AV.int IntKind.i64 i_258, jj, jj, jj, jj, jj, jj, jj, jj, jj, jj, jj, jj, jj, jj, jj, jj, jj, jj, jj] [] (0 : Nat))) (version_number_res r) (version_number_out r))) t) h311 (fun t h311 => ?_) (fun t266 h266 K266 => ?_)
    ·
      rcases t with t_263 | t_264
      · replace h311 := W.inl (h311)
        refine W.elimL (?_)
        cases h311; exact W.at 2 100000 [] [0, 1, 6] (by kernel_rfl) K311
      · replace h311 := W.inr (h311)
        refine W.elimR (?_)
        cases h311; exact W.at 2 100000 [] [0, 1, 6] (by kernel_rfl) K311
    · refine W.next 2 1 (by kernel_rfl) ?_
      refine W.cond 4 100000 h266 (by kernel_rfl) (fun h266 => ?_) (fun h266 => ?_)
      ·
        refine W.yes 4 100000 (by kernel_rfl) ?_
        refine W.yes 4 100000 (by kernel_rfl) ?_
        refine W.needT 4 100000 h266 (by kernel_rfl) (fun h266 => ?_)
        refine W.yes 4 100000 (by kernel_rfl) ?_
        refine W.bind h266 fun a_262 ha_262 h266 => ?_
        refine W.call 4 100000 (by kernel_rfl) (version_digit_con ha_262) (by kernel_rfl) ?_
        refine W.yes 4 100000 (by kernel_rfl) ?_
        refine W.cond 4 100000 h266 (by kernel_rfl) (fun h266 => ?_) (fun h266 => ?_)
        ·
          cases h266; exact W.at 4 100000 [] [0, 1, 6] (by kernel_rfl) K266
        ·
          cases h266; exact W.at 4 100000 [] [0, 1, 6] (by kernel_rfl) K266
      ·
        refine W.no 4 100000 (by kernel_rfl) ?_
        refine W.no 4 100000 (by kernel_rfl) ?_
        refine W.no 4 100000 (by kernel_rfl) ?_
        refine W.no 4 100000 (by kernel_rfl) ?_
        refine W.no 4 100000 (by kernel_rfl) ?_
        cases h266; exact W.at 4 100000 [] [0, 1, 6] (by kernel_rfl) K266

theorem cmp_isNaN_string__con {x_321 : List UInt8} {r : Bool} (h : cmp_isNaN_string_ x_321 = some r) : Con Go.Proofs.Tryd.prog 45 [AV.str x_321] [] (cmp_isNaN_string__res r) (cmp_isNaN_string__out r) := by
  refine W.con (by kernel_rfl) ?_
  unfold cmp_isNaN_string_ at h
  exact W.retT 0 100000 h (by kernel_rfl)

theorem cmp_Compare_string__con {x_319 : List UInt8} {y_320 : List UInt8} {r : Int} (h : cmp_Compare_string_ x_319 y_320 = some r) : Con Go.Proofs.Tryd.prog 35 [AV.str x_319, AV.str y_320] [] (cmp_Compare_string__res r) (cmp_Compare_string__out r) := by
  refine W.con (by kernel_rfl) ?_
  unfold cmp_Compare_string_ at h
  refine W.bind h fun a_324 ha_324 h => ?_
  refine W.call 0 100000 (by kernel_rfl) (cmp_isNaN_string__con ha_324) (by kernel_rfl) ?_
  refine W.bind h fun a_325 ha_325 h => ?_
  refine W.call 0 100000 (by kernel_rfl) (cmp_isNaN_string__con ha_325) (by kernel_rfl) ?_
  refine W.cond 0 100000 h (by kernel_rfl) (fun h => ?_) (fun h => ?_)
  ·
    refine W.cond 0 100000 h (by kernel_rfl) (fun h => ?_) (fun h => ?_)
    ·
      exact W.retT 0 100000 h (by kernel_rfl)
    ·
      exact W.retT 0 100000 h (by kernel_rfl)
  ·
    refine W.cond 0 100000 h (by kernel_rfl) (fun h => ?_) (fun h => ?_)
    ·
      exact W.retT 0 100000 h (by kernel_rfl)
    ·
      refine W.cond 0 100000 h (by kernel_rfl) (fun h => ?_) (fun h => ?_)
      ·
        exact W.retT 0 100000 h (by kernel_rfl)
      ·
        refine W.cond 0 100000 h (by kernel_rfl) (fun h => ?_) (fun h => ?_)
        ·
          exact W.retT 0 100000 h (by kernel_rfl)
        ·
          exact W.retT 0 100000 h (by kernel_rfl)

theorem version_Order_con {a_226 : List UInt8} {b_227 : List UInt8} {r : Int} (h : version_Order a_226 b_227 = some r) : Con Go.Proofs.Tryd.prog 15 [AV.str a_226, AV.str b_227] [] (version_Order_res r) (version_Order_out r) := by
  refine W.con (by kernel_rfl) ?_
  unfold version_Order at h
  refine W.at 0 100000 [] [0, 1, 5, 6] (c' := (fun (s_340 : Int × Int) => (Cfg.mk Mode.run (headTodo Go.Proofs.Tryd.prog 15 0) (St.mk [AV.str a_226, AV.str b_227, jj, jj, jj, AV.int IntKind.i64 (Prod.fst s_340), AV.int IntKind.i64 (Prod.snd s_340), jj, jj, jj, jj, jj, jj, jj, jj, jj, jj, jj, jj, jj, jj, jj, jj, jj, jj, jj, jj, jj, jj, jj, jj, jj, jj, jj, jj, jj, jj, jj, jj, jj, jj, jj, jj, jj, jj, jj, jj, jj, jj, jj, jj, jj, jj, jj, jj, jj, jj, jj, jj, jj, jj, jj, jj, jj, jj, jj, jj, jj, jj, jj, jj, jj, jj, jj, jj, jj, jj, jj, jj, jj, jj, jj, jj, jj, jj, jj, jj, jj, jj] [] (0 : Nat)))) ((0 : Int), (0 : Int))) (by kernel_rfl) ?_
  refine W.loop (fun (s_340 : Int × Int) => (Cfg.mk Mode.run (headTodo Go.Proofs.Tryd.prog 15 0) (St.mk [AV.str a_226, AV.str b_227, jj, jj, jj, AV.int IntKind.i64 (Prod.fst s_340), AV.int IntKind.i64 (Prod.snd s_340), jj, jj, jj, jj, jj, jj, jj, jj, jj, jj, jj, jj, jj, jj, jj, jj, jj, jj, jj, jj, jj, jj, jj, jj, jj, jj, jj, jj, jj, jj, jj, jj, jj, jj, jj, jj, jj, jj, jj, jj, jj, jj, jj, jj, jj, jj, jj, jj, jj, jj, jj, jj, jj, jj, jj, jj, jj, jj, jj, jj, jj, jj, jj, jj, jj, jj, jj, jj, jj, jj, jj, jj, jj, jj, jj, jj, jj, jj, jj, jj, jj, jj] [] (0 : Nat)))) (fun t => (Sum.elim (fun t_333 => r = (t_333)) (fun t_334 => Walk Go.Proofs.Tryd.prog 15 (Cfg.mk Mode.run ((headTodo Go.Proofs.Tryd.prog 15 0).drop 3) (St.mk [jj, jj, jj, jj, jj, jj, jj, jj, jj, jj, jj, jj, jj, jj, jj, jj, jj, jj, jj, jj, jj, jj, jj, jj, jj, jj, jj, jj, jj, jj, jj, jj, jj, jj, jj, jj, jj, jj, jj, jj, jj, jj, jj, jj, jj, jj, jj, jj, jj, jj, jj, jj, jj, jj, jj, jj, jj, jj, jj, jj, jj, jj, jj, jj, jj, jj, jj, jj, jj, jj, jj, jj, jj, jj, jj, jj, jj, jj, jj, jj, jj, jj, jj, jj, jj, jj, jj, jj, jj] [] (0 : Nat))) (version_Order_res r) (version_Order_out r))) t) h (fun t h => ?_) (fun s_340 x336 h336 K336 => ?_)
  ·
    rcases t with t_333 | t_334
    · replace h := W.inl (h)
      refine W.elimL (?_)
      exact (Option.some.inj h).symm
    · replace h := W.inr (h)
      refine W.elimR (?_)
      exact W.retT 0 100000 h (by kernel_rfl)
  · unfold version_Order_b1 at h336
    refine W.join (fun t => (Sum.elim (fun t_232 => Walk Go.Proofs.Tryd.prog 15 (Cfg.mk Mode.run (seqTodo Go.Proofs.Tryd.prog 15 4) (St.mk [AV.str a_226, AV.str b_227, jj, jj, jj, AV.int IntKind.i64 (Prod.fst s_340), AV.int IntKind.i64 (Prod.snd s_340), jj, jj, jj, jj, jj, jj, jj, jj, jj, jj, jj, jj, jj, jj, jj, jj, jj, jj, jj, jj, jj, jj, jj, jj, jj, jj, jj, jj, jj, jj, jj, jj, jj, jj, jj, jj, jj, jj, jj, jj, jj, jj, jj, jj, jj, jj, jj, jj, jj, jj, jj, jj, jj, jj, jj, jj, jj, jj, jj, jj, jj, jj, jj, jj, jj, jj, jj, jj, jj, jj, jj, jj, jj, jj, jj, jj, jj, jj, jj, jj, jj, jj] [] (0 : Nat))) (version_Order_res r) (version_Order_out r)) (fun t_330 => Walk Go.Proofs.Tryd.prog 15 (Cfg.mk Mode.run ((seqTodo Go.Proofs.Tryd.prog 15 4).drop 3) (St.mk [jj, jj, jj, jj, jj, jj, jj, jj, jj, jj, jj, jj, jj, jj, jj, jj, jj, jj, jj, jj, jj, jj, jj, jj, jj, jj, jj, jj, jj, jj, jj, jj, jj, jj, jj, jj, jj, jj, jj, jj, jj, jj, jj, jj, jj, jj, jj, jj, jj, jj, jj, jj, jj, jj, jj, jj, jj, jj, jj, jj, jj, jj, jj, jj, jj, jj, jj, jj, jj, jj, jj, jj, jj, jj, jj, jj, jj, jj, jj, jj, jj, jj, jj, jj, jj, jj, jj, jj, jj] [] (0 : Nat))) (version_Order_res r) (version_Order_out r))) t) h336 (fun t h336 => ?_) (fun t332 h332 K332 => ?_)
    ·
      rcases t with t_232 | t_330
      · replace h336 := W.inl (h336)
        refine W.elimL (?_)
        refine W.at 3 100000 [] [0, 1, 5, 6] (c' := (fun (s_341 : Int × Int) => (Cfg.mk Mode.run (headTodo Go.Proofs.Tryd.prog 15 1) (St.mk [AV.str a_226, AV.str b_227, jj, jj, jj, AV.int IntKind.i64 (Prod.fst s_341), AV.int IntKind.i64 (Prod.snd s_341), jj, jj, jj, jj, jj, jj, jj, jj, jj, jj, jj, jj, jj, jj, jj, jj, jj, jj, jj, jj, jj, jj, jj, jj, jj, jj, jj, jj, jj, jj, jj, jj, jj, jj, jj, jj, jj, jj, jj, jj, jj, jj, jj, jj, jj, jj, jj, jj, jj, jj, jj, jj, jj, jj, jj, jj, jj, jj, jj, jj, jj, jj, jj, jj, jj, jj, jj, jj, jj, jj, jj, jj, jj, jj, jj, jj, jj, jj, jj, jj, jj, jj] [] (0 : Nat)))) (Prod.fst s_340, Prod.snd s_340)) (by kernel_rfl) ?_
        refine W.loop (fun (s_341 : Int × Int) => (Cfg.mk Mode.run (headTodo Go.Proofs.Tryd.prog 15 1) (St.mk [AV.str a_226, AV.str b_227, jj, jj, jj, AV.int IntKind.i64 (Prod.fst s_341), AV.int IntKind.i64 (Prod.snd s_341), jj, jj, jj, jj, jj, jj, jj, jj, jj, jj, jj, jj, jj, jj, jj, jj, jj, jj, jj, jj, jj, jj, jj, jj, jj, jj, jj, jj, jj, jj, jj, jj, jj, jj, jj, jj, jj, jj, jj, jj, jj, jj, jj, jj, jj, jj, jj, jj, jj, jj, jj, jj, jj, jj, jj, jj, jj, jj, jj, jj, jj, jj, jj, jj, jj, jj, jj, jj, jj, jj, jj, jj, jj, jj, jj, jj, jj, jj, jj, jj, jj, jj] [] (0 : Nat)))) (fun t => (Sum.elim (fun t_253 => r = (t_253)) (fun t_256 => Walk Go.Proofs.Tryd.prog 15 (Cfg.mk Mode.run ((headTodo Go.Proofs.Tryd.prog 15 1).drop 3) (St.mk [AV.str a_226, AV.str b_227, jj, jj, jj, AV.int IntKind.i64 (Prod.fst t_256), AV.int IntKind.i64 (Prod.snd t_256), jj, jj, jj, jj, jj, jj, jj, jj, jj, jj, jj, jj, jj, jj, jj, jj, jj, jj, jj, jj, jj, jj, jj, jj, jj, jj, jj, jj, jj, jj, jj, jj, jj, jj, jj, jj, jj, jj, jj, jj, jj, jj, jj, jj, jj, jj, jj, jj, jj, jj, jj, jj, jj, jj, jj, jj, jj, jj, jj, jj, jj, jj, jj, jj, jj, jj, jj, jj, jj, jj, jj, jj, jj, jj, jj, jj, jj, jj, jj, jj, jj, jj] [] (0 : Nat))) (version_Order_res r) (version_Order_out r))) t) h336 (fun t h336 => ?_) (fun s_341 x330 h330 K330 => ?_)
        ·
          rcases t with t_253 | t_256
          · replace h336 := W.inl (h336)
            refine W.elimL (?_)
            cases h336; exact K336
          · replace h336 := W.inr (h336)
            refine W.elimR (?_)
            refine W.bind h336 fun a_316 ha_316 h336 => ?_
            refine W.call 3 100000 (by kernel_rfl) (version_number_con ha_316) (by kernel_rfl) ?_
            refine W.bind h336 fun a_317 ha_317 h336 => ?_
            refine W.call 3 100000 (by kernel_rfl) (version_number_con ha_317) (by kernel_rfl) ?_
            refine W.cond 3 100000 h336 (by kernel_rfl) (fun h336 => ?_) (fun h336 => ?_)
            ·
              cases h336; exact W.at 3 100000 [] [0, 1, 5, 6] (by kernel_rfl) K336
            ·
              refine W.bind h336 fun a_318 ha_318 h336 => ?_
              refine W.call 3 100000 (by kernel_rfl) (cmp_Compare_int__con ha_318) (by kernel_rfl) ?_
              refine W.cond 3 100000 h336 (by kernel_rfl) (fun h336 => ?_) (fun h336 => ?_)
              ·
                cases h336; exact W.retK 3 100000 K336 (by kernel_rfl)
              ·
                refine W.bind h336 fun a_328 ha_328 h336 => ?_
                refine W.call 3 100000 (by kernel_rfl) (cmp_Compare_string__con ha_328) (by kernel_rfl) ?_
                cases h336; exact W.retK 3 100000 K336 (by kernel_rfl)
        · unfold version_Order_b0 at h330
          refine W.join (fun t => (Sum.elim (fun t_240 => Walk Go.Proofs.Tryd.prog 15 (Cfg.mk Mode.run (seqTodo Go.Proofs.Tryd.prog 15 7) (St.mk [AV.str a_226, AV.str b_227, jj, jj, jj, AV.int IntKind.i64 (Prod.fst s_341), AV.int IntKind.i64 (Prod.snd s_341), jj, jj, jj, jj, jj, jj, jj, jj, jj, jj, jj, jj, jj, jj, jj, jj, jj, jj, jj, jj, jj, jj, jj, jj, jj, jj, jj, jj, jj, jj, jj, jj, jj, jj, jj, jj, jj, jj, jj, jj, jj, jj, jj, jj, jj, jj, jj, jj, jj, jj, jj, jj, jj, jj, jj, jj, jj, jj, jj, jj, jj, jj, jj, jj, jj, jj, jj, jj, jj, jj, jj, jj, jj, jj, jj, jj, jj, jj, jj, jj, jj, jj] [] (0 : Nat))) (version_Order_res r) (version_Order_out r)) (fun t_250 => Walk Go.Proofs.Tryd.prog 15 (Cfg.mk Mode.run ((seqTodo Go.Proofs.Tryd.prog 15 7).drop 3) (St.mk [AV.str a_226, AV.str b_227, jj, jj, jj, AV.int IntKind.i64 (Prod.fst s_341), AV.int IntKind.i64 (Prod.snd s_341), jj, jj, jj, jj, jj, jj, jj, jj, jj, jj, jj, jj, jj, jj, jj, jj, jj, jj, jj, jj, jj, jj, jj, jj, jj, jj, jj, jj, jj, jj, jj, jj, jj, jj, jj, jj, jj, jj, jj, jj, jj, jj, jj, jj, jj, jj, jj, jj, jj, jj, jj, jj, jj, jj, jj, jj, jj, jj, jj, jj, jj, jj, jj, jj, jj, jj, jj, jj, jj, jj, jj, jj, jj, jj, jj, jj, jj, jj, jj, jj, jj, jj] [] (0 : Nat))) (version_Order_res r) (version_Order_out r))) t) h330 (fun t h330 => ?_) (fun t252 h252 K252 => ?_)
          ·
            rcases t with t_240 | t_250
            · replace h330 := W.inl (h330)
              refine W.elimL (?_)
              refine W.bind h330 fun a_247 ha_247 h330 => ?_
              refine W.call 7 100000 (by kernel_rfl) (version_weight_con ha_247) (by kernel_rfl) ?_
              refine W.bind h330 fun a_248 ha_248 h330 => ?_
              refine W.call 7 100000 (by kernel_rfl) (version_weight_con ha_248) (by kernel_rfl) ?_
              refine W.bind h330 fun a_249 ha_249 h330 => ?_
              refine W.call 7 100000 (by kernel_rfl) (cmp_Compare_int__con ha_249) (by kernel_rfl) ?_
              refine W.cond 7 100000 h330 (by kernel_rfl) (fun h330 => ?_) (fun h330 => ?_)
              ·
                cases h330; exact W.retK 7 100000 K330 (by kernel_rfl)
              ·
                cases h330; exact W.at 7 100000 [] [0, 1, 5, 6] (by kernel_rfl) K330
            · replace h330 := W.inr (h330)
              refine W.elimR (?_)
              cases h330; exact W.at 7 100000 [] [0, 1, 5, 6] (by kernel_rfl) K330
          · refine W.next 7 1 (by kernel_rfl) ?_
            refine W.cond 9 100000 h252 (by kernel_rfl) (fun h252 => ?_) (fun h252 => ?_)
            ·
              refine W.yes 9 100000 (by kernel_rfl) ?_
              refine W.yes 9 100000 (by kernel_rfl) ?_
              refine W.needT 9 100000 h252 (by kernel_rfl) (fun h252 => ?_)
              refine W.yes 9 100000 (by kernel_rfl) ?_
              refine W.bind h252 fun a_237 ha_237 h252 => ?_
              refine W.call 9 100000 (by kernel_rfl) (version_digit_con ha_237) (by kernel_rfl) ?_
              refine W.yes 9 100000 (by kernel_rfl) ?_
              refine W.yes 9 100000 (by kernel_rfl) ?_
              refine W.cond 9 100000 h252 (by kernel_rfl) (fun h252 => ?_) (fun h252 => ?_)
              ·
                refine W.yes 9 100000 (by kernel_rfl) ?_
                refine W.yes 9 100000 (by kernel_rfl) ?_
                refine W.yes 9 100000 (by kernel_rfl) ?_
                refine W.yes 9 100000 (by kernel_rfl) ?_
                refine W.yes 9 100000 (by kernel_rfl) ?_
                refine W.yes 9 100000 (by kernel_rfl) ?_
                refine W.yes 9 100000 (by kernel_rfl) ?_
                cases h252; exact W.at 9 100000 [] [0, 1, 5, 6] (by kernel_rfl) K252
              ·
                refine W.no 9 100000 (by kernel_rfl) ?_
                refine W.no 9 100000 (by kernel_rfl) ?_
                refine W.no 9 100000 (by kernel_rfl) ?_
                refine W.no 9 100000 (by kernel_rfl) ?_
                refine W.cond 9 100000 h252 (by kernel_rfl) (fun h252 => ?_) (fun h252 => ?_)
                ·
                  refine W.yes 9 100000 (by kernel_rfl) ?_
                  refine W.yes 9 100000 (by kernel_rfl) ?_
                  refine W.needT 9 100000 h252 (by kernel_rfl) (fun h252 => ?_)
                  refine W.yes 9 100000 (by kernel_rfl) ?_
                  refine W.bind h252 fun a_238 ha_238 h252 => ?_
                  refine W.call 9 100000 (by kernel_rfl) (version_digit_con ha_238) (by kernel_rfl) ?_
                  refine W.yes 9 100000 (by kernel_rfl) ?_
                  refine W.no 9 100000 (by kernel_rfl) ?_
                  refine W.yes 9 100000 (by kernel_rfl) ?_
                  refine W.no 9 100000 (by kernel_rfl) ?_
                  refine W.cond 9 100000 h252 (by kernel_rfl) (fun h252 => ?_) (fun h252 => ?_)
                  ·
                    cases h252; exact W.at 9 100000 [] [0, 1, 5, 6] (by kernel_rfl) K252
                  ·
                    cases h252; exact W.at 9 100000 [] [0, 1, 5, 6] (by kernel_rfl) K252
                ·
                  refine W.no 9 100000 (by kernel_rfl) ?_
                  refine W.no 9 100000 (by kernel_rfl) ?_
                  refine W.no 9 100000 (by kernel_rfl) ?_
                  refine W.no 9 100000 (by kernel_rfl) ?_
                  refine W.no 9 100000 (by kernel_rfl) ?_
                  refine W.no 9 100000 (by kernel_rfl) ?_
                  refine W.no 9 100000 (by kernel_rfl) ?_
                  refine W.no 9 100000 (by kernel_rfl) ?_
                  cases h252; exact W.at 9 100000 [] [0, 1, 5, 6] (by kernel_rfl) K252
            ·
              refine W.no 9 100000 (by kernel_rfl) ?_
              refine W.no 9 100000 (by kernel_rfl) ?_
              refine W.no 9 100000 (by kernel_rfl) ?_
              refine W.no 9 100000 (by kernel_rfl) ?_
              refine W.no 9 100000 (by kernel_rfl) ?_
              refine W.no 9 100000 (by kernel_rfl) ?_
              refine W.no 9 100000 (by kernel_rfl) ?_
              refine W.no 9 100000 (by kernel_rfl) ?_
              refine W.no 9 100000 (by kernel_rfl) ?_
              refine W.no 9 100000 (by kernel_rfl) ?_
              refine W.cond 9 100000 h252 (by kernel_rfl) (fun h252 => ?_) (fun h252 => ?_)
              ·
                refine W.yes 9 100000 (by kernel_rfl) ?_
                refine W.yes 9 100000 (by kernel_rfl) ?_
                refine W.needT 9 100000 h252 (by kernel_rfl) (fun h252 => ?_)
                refine W.yes 9 100000 (by kernel_rfl) ?_
                refine W.bind h252 fun a_239 ha_239 h252 => ?_
                refine W.call 9 100000 (by kernel_rfl) (version_digit_con ha_239) (by kernel_rfl) ?_
                refine W.yes 9 100000 (by kernel_rfl) ?_
                refine W.no 9 100000 (by kernel_rfl) ?_
                refine W.yes 9 100000 (by kernel_rfl) ?_
                refine W.no 9 100000 (by kernel_rfl) ?_
                refine W.cond 9 100000 h252 (by kernel_rfl) (fun h252 => ?_) (fun h252 => ?_)
                ·
                  cases h252; exact W.at 9 100000 [] [0, 1, 5, 6] (by kernel_rfl) K252
                ·
                  cases h252; exact W.at 9 100000 [] [0, 1, 5, 6] (by kernel_rfl) K252
              ·
                refine W.no 9 100000 (by kernel_rfl) ?_
                refine W.no 9 100000 (by kernel_rfl) ?_
                refine W.no 9 100000 (by kernel_rfl) ?_
                refine W.no 9 100000 (by kernel_rfl) ?_
                refine W.no 9 100000 (by kernel_rfl) ?_
                refine W.no 9 100000 (by kernel_rfl) ?_
                refine W.no 9 100000 (by kernel_rfl) ?_
                refine W.no 9 100000 (by kernel_rfl) ?_
                cases h252; exact W.at 9 100000 [] [0, 1, 5, 6] (by kernel_rfl) K252
      · replace h336 := W.inr (h336)
        refine W.elimR (?_)
        cases h336; exact W.at 3 100000 [] [] (by kernel_rfl) K336
    · refine W.next 3 1 (by kernel_rfl) ?_
      refine W.cond 5 100000 h332 (by kernel_rfl) (fun h332 => ?_) (fun h332 => ?_)
      ·
        refine W.yes 5 100000 (by kernel_rfl) ?_
        refine W.yes 5 100000 (by kernel_rfl) ?_
        refine W.yes 5 100000 (by kernel_rfl) ?_
        refine W.yes 5 100000 (by kernel_rfl) ?_
        refine W.yes 5 100000 (by kernel_rfl) ?_
        cases h332; exact W.at 5 100000 [] [0, 1, 5, 6] (by kernel_rfl) K332
      ·
        refine W.no 5 100000 (by kernel_rfl) ?_
        refine W.no 5 100000 (by kernel_rfl) ?_
        refine W.no 5 100000 (by kernel_rfl) ?_
        refine W.no 5 100000 (by kernel_rfl) ?_
        refine W.cond 5 100000 h332 (by kernel_rfl) (fun h332 => ?_) (fun h332 => ?_)
        ·
          cases h332; exact W.at 5 100000 [] [0, 1, 5, 6] (by kernel_rfl) K332
        ·
          cases h332; exact W.at 5 100000 [] [] (by kernel_rfl) K332

theorem version_Compare_con {a_206 : List UInt8} {b_207 : List UInt8} {r : Int} (h : version_Compare a_206 b_207 = some r) : Con Go.Proofs.Tryd.prog 13 [AV.str a_206, AV.str b_207] [] (version_Compare_res r) (version_Compare_out r) := by
  refine W.con (by kernel_rfl) ?_
  unfold version_Compare at h
  refine W.bind h fun a_214 ha_214 h => ?_
  refine W.call 0 100000 (by kernel_rfl) (version_parsed_con ha_214) (by kernel_rfl) ?_
  refine W.bind h fun a_215 ha_215 h => ?_
  refine W.call 0 100000 (by kernel_rfl) (version_parsed_con ha_215) (by kernel_rfl) ?_
  refine W.bind h fun a_225 ha_225 h => ?_
  refine W.call 0 100000 (by kernel_rfl) (cmp_Compare_int__con ha_225) (by kernel_rfl) ?_
  refine W.cond 0 100000 h (by kernel_rfl) (fun h => ?_) (fun h => ?_)
  ·
    exact W.retT 0 100000 h (by kernel_rfl)
  ·
    refine W.bind h fun a_342 ha_342 h => ?_
    refine W.call 0 100000 (by kernel_rfl) (version_Order_con ha_342) (by kernel_rfl) ?_
    refine W.cond 0 100000 h (by kernel_rfl) (fun h => ?_) (fun h => ?_)
    ·
      exact W.retT 0 100000 h (by kernel_rfl)
    ·
      refine W.bind h fun a_343 ha_343 h => ?_
      refine W.call 0 100000 (by kernel_rfl) (version_Order_con ha_343) (by kernel_rfl) ?_
      exact W.retT 0 100000 h (by kernel_rfl)

theorem cellarerref01_Text_con {n_350 : Int} {r : List UInt8} (h : cellarerref01_Text n_350 = some r) : Con Go.Proofs.Tryd.prog 32 [AV.int IntKind.i64 n_350] [] (cellarerref01_Text_res r) (cellarerref01_Text_out r) := by
  refine W.con (by kernel_rfl) ?_
  unfold cellarerref01_Text at h
  refine W.join (fun t_352 => Walk Go.Proofs.Tryd.prog 32 (Cfg.mk Mode.run (seqTodo Go.Proofs.Tryd.prog 32 2) (St.mk [AV.int IntKind.i64 n_350, jj, jj, AV.int IntKind.u64 t_352, jj, jj, jj, jj, jj, jj, jj, jj, jj, jj, jj, jj, jj, jj, jj, jj, jj, jj, jj, jj, jj, jj, jj, jj, jj, jj, jj, jj, jj, jj] [] (0 : Nat))) (cellarerref01_Text_res r) (cellarerref01_Text_out r)) h (fun t_352 h => ?_) (fun t360 h360 K360 => ?_)
  ·
    refine W.need 0 100000 (p := (10 : Int) ≠ (0 : Int)) (by kernel_rfl) (by decide) ?_
    refine W.need 0 100000 (p := (10 : Int) ≠ (0 : Int)) (by kernel_rfl) (by decide) ?_
    refine W.at 0 100000 [] [0, 3, 4] (c' := (fun (s_363 : Int × List UInt8) => (Cfg.mk Mode.run (headTodo Go.Proofs.Tryd.prog 32 0) (St.mk [AV.int IntKind.i64 n_350, jj, jj, AV.int IntKind.u64 (Prod.fst s_363), AV.str (Prod.snd s_363), jj, jj, jj, jj, jj, jj, jj, jj, jj, jj, jj, jj, jj, jj, jj, jj, jj, jj, jj, jj, jj, jj, jj, jj, jj, jj, jj, jj, jj] [] (0 : Nat)))) (IntKind.wrap IntKind.u64 (Int.tdiv t_352 (10 : Int)), enc (IntKind.wrap IntKind.i32 (IntKind.wrap IntKind.u64 ((48 : Int) + Int.tmod t_352 (10 : Int)))))) (by kernel_rfl) ?_
    refine W.loop (fun (s_363 : Int × List UInt8) => (Cfg.mk Mode.run (headTodo Go.Proofs.Tryd.prog 32 0) (St.mk [AV.int IntKind.i64 n_350, jj, jj, AV.int IntKind.u64 (Prod.fst s_363), AV.str (Prod.snd s_363), jj, jj, jj, jj, jj, jj, jj, jj, jj, jj, jj, jj, jj, jj, jj, jj, jj, jj, jj, jj, jj, jj, jj, jj, jj, jj, jj, jj, jj] [] (0 : Nat)))) (fun t_357 => Walk Go.Proofs.Tryd.prog 32 (Cfg.mk Mode.run ((headTodo Go.Proofs.Tryd.prog 32 0).drop 3) (St.mk [AV.int IntKind.i64 n_350, jj, jj, jj, AV.str t_357, jj, jj, jj, jj, jj, jj, jj, jj, jj, jj, jj, jj, jj, jj, jj, jj, jj, jj, jj, jj, jj, jj, jj, jj, jj, jj, jj, jj, jj] [] (0 : Nat))) (cellarerref01_Text_res r) (cellarerref01_Text_out r)) h (fun t_357 h => ?_) (fun s_363 x359 h359 K359 => ?_)
    ·
      refine W.cond 0 100000 h (by kernel_rfl) (fun h => ?_) (fun h => ?_)
      ·
        refine W.needT 0 100000 h (by kernel_rfl) (fun h => ?_)
        exact W.retT 0 100000 h (by kernel_rfl)
      ·
        exact W.retT 0 100000 h (by kernel_rfl)
    · unfold cellarerref01_Text_b0 at h359
      refine W.cond 2 100000 h359 (by kernel_rfl) (fun h359 => ?_) (fun h359 => ?_)
      ·
        refine W.need 2 100000 (p := (10 : Int) ≠ (0 : Int)) (by kernel_rfl) (by decide) ?_
        refine W.needT 2 100000 h359 (by kernel_rfl) (fun h359 => ?_)
        refine W.need 2 100000 (p := (10 : Int) ≠ (0 : Int)) (by kernel_rfl) (by decide) ?_
        cases h359; exact W.at 2 100000 [] [0, 3, 4] (by kernel_rfl) K359
      ·
        cases h359; exact W.at 2 100000 [] [0, 4] (by kernel_rfl) K359
  · refine W.next 0 11 (by kernel_rfl) ?_
    refine W.cond 1 100000 h360 (by kernel_rfl) (fun h360 => ?_) (fun h360 => ?_)
    ·
      cases h360; exact W.at 1 100000 [] [0, 3] (by kernel_rfl) K360
    ·
      cases h360; exact W.at 1 100000 [] [0, 3] (by kernel_rfl) K360

theorem cellarerref05_Text_con {v_347 : Int} {v_348 : List UInt8} {v_349 : List UInt8} {r : List UInt8} (h : cellarerref05_Text v_347 v_348 v_349 = some r) : Con Go.Proofs.Tryd.prog 14 [AV.agg [AV.int IntKind.i64 v_347, AV.str v_348, AV.str v_349]] [] (cellarerref05_Text_res r) (cellarerref05_Text_out r) := by
  refine W.con (by kernel_rfl) ?_
  unfold cellarerref05_Text at h
  refine W.join (fun t_368 => Walk Go.Proofs.Tryd.prog 14 (Cfg.mk Mode.run (seqTodo Go.Proofs.Tryd.prog 14 2) (St.mk [jj, AV.ptr (0 : Nat) (0 : Nat), jj, AV.str t_368, jj, jj, jj, jj, jj, jj, jj, jj, jj, jj, jj, jj, jj, jj, jj, jj, jj, jj, jj, jj, jj, jj, jj, jj, jj, jj, jj, jj, jj, jj, jj, jj, jj] [AO.box [AV.int IntKind.i64 v_347, AV.str v_348, AV.str v_349]] (0 : Nat))) (cellarerref05_Text_res r) (cellarerref05_Text_out r)) h (fun t_368 h => ?_) (fun t371 h371 K371 => ?_)
  ·
    refine W.cond 0 100000 h (by kernel_rfl) (fun h => ?_) (fun h => ?_)
    ·
      refine W.yes 0 100000 (by kernel_rfl) ?_
      refine W.yes 0 100000 (by kernel_rfl) ?_
      refine W.yes 0 100000 (by kernel_rfl) ?_
      refine W.yes 0 100000 (by kernel_rfl) ?_
      refine W.yes 0 100000 (by kernel_rfl) ?_
      refine W.needT 0 100000 h (by kernel_rfl) (fun h => ?_)
      refine W.needT 0 100000 h (by kernel_rfl) (fun h => ?_)
      exact W.retT 0 100000 h (by kernel_rfl)
    ·
      refine W.no 0 100000 (by kernel_rfl) ?_
      refine W.no 0 100000 (by kernel_rfl) ?_
      refine W.bind h fun a_369 ha_369 h => ?_
      refine W.call 0 100000 (by kernel_rfl) (cellarerref05_at_con ha_369) (by kernel_rfl) ?_
      refine W.no 0 100000 (by kernel_rfl) ?_
      refine W.no 0 100000 (by kernel_rfl) ?_
      refine W.cond 0 100000 h (by kernel_rfl) (fun h => ?_) (fun h => ?_)
      ·
        refine W.needT 0 100000 h (by kernel_rfl) (fun h => ?_)
        refine W.needT 0 100000 h (by kernel_rfl) (fun h => ?_)
        exact W.retT 0 100000 h (by kernel_rfl)
      ·
        exact W.retT 0 100000 h (by kernel_rfl)
  · refine W.next 0 12 (by kernel_rfl) ?_
    refine W.cond 1 100000 h371 (by kernel_rfl) (fun h371 => ?_) (fun h371 => ?_)
    ·
      refine W.yes 1 100000 (by kernel_rfl) ?_
      refine W.yes 1 100000 (by kernel_rfl) ?_
      refine W.yes 1 100000 (by kernel_rfl) ?_
      refine W.yes 1 100000 (by kernel_rfl) ?_
      refine W.yes 1 100000 (by kernel_rfl) ?_
      refine W.bind h371 fun a_364 ha_364 h371 => ?_
      refine W.call 1 100000 (by kernel_rfl) (cellarerref01_Text_con ha_364) (by kernel_rfl) ?_
      refine W.needT 1 100000 h371 (by kernel_rfl) (fun h371 => ?_)
      refine W.needT 1 100000 h371 (by kernel_rfl) (fun h371 => ?_)
      cases h371; exact W.at 1 100000 [] [1, 3] (by kernel_rfl) K371
    ·
      refine W.no 1 100000 (by kernel_rfl) ?_
      refine W.no 1 100000 (by kernel_rfl) ?_
      refine W.bind h371 fun a_365 ha_365 h371 => ?_
      refine W.call 1 100000 (by kernel_rfl) (cellarerref05_at_con ha_365) (by kernel_rfl) ?_
      refine W.no 1 100000 (by kernel_rfl) ?_
      refine W.no 1 100000 (by kernel_rfl) ?_
      refine W.cond 1 100000 h371 (by kernel_rfl) (fun h371 => ?_) (fun h371 => ?_)
      ·
        refine W.bind h371 fun a_366 ha_366 h371 => ?_
        refine W.call 1 100000 (by kernel_rfl) (cellarerref01_Text_con ha_366) (by kernel_rfl) ?_
        refine W.needT 1 100000 h371 (by kernel_rfl) (fun h371 => ?_)
        refine W.needT 1 100000 h371 (by kernel_rfl) (fun h371 => ?_)
        cases h371; exact W.at 1 100000 [] [1, 3] (by kernel_rfl) K371
      ·
        cases h371; exact W.at 1 100000 [] [1, 3] (by kernel_rfl) K371

theorem cellarerref05_piece_con {s_382 : List UInt8} {r : List UInt8 × List UInt8 × List UInt8} (h : cellarerref05_piece s_382 = some r) : Con Go.Proofs.Tryd.prog 36 [AV.str s_382] [] (cellarerref05_piece_res r) (cellarerref05_piece_out r) := by
  refine W.con (by kernel_rfl) ?_
  unfold cellarerref05_piece at h
  refine W.at 0 100000 [] [0, 5] (c' := (fun (s_419 : Int) => (Cfg.mk Mode.run (headTodo Go.Proofs.Tryd.prog 36 0) (St.mk [AV.str s_382, jj, jj, jj, jj, AV.int IntKind.i64 s_419, jj, jj, jj, jj, jj, jj, jj, jj, jj, jj, jj, jj, jj, jj, jj, jj, jj, jj, jj, jj, jj, jj, jj, jj, jj, jj, jj, jj, jj, jj, jj, jj, jj, jj, jj, jj, jj, jj, jj, jj, jj, jj, jj, jj, jj, jj, jj, jj, jj] [] (0 : Nat)))) ((0 : Int))) (by kernel_rfl) ?_
  refine W.loop (fun (s_419 : Int) => (Cfg.mk Mode.run (headTodo Go.Proofs.Tryd.prog 36 0) (St.mk [AV.str s_382, jj, jj, jj, jj, AV.int IntKind.i64 s_419, jj, jj, jj, jj, jj, jj, jj, jj, jj, jj, jj, jj, jj, jj, jj, jj, jj, jj, jj, jj, jj, jj, jj, jj, jj, jj, jj, jj, jj, jj, jj, jj, jj, jj, jj, jj, jj, jj, jj, jj, jj, jj, jj, jj, jj, jj, jj, jj, jj] [] (0 : Nat)))) (fun t_390 => Walk Go.Proofs.Tryd.prog 36 (Cfg.mk Mode.run ((headTodo Go.Proofs.Tryd.prog 36 0).drop 3) (St.mk [AV.str s_382, jj, jj, jj, jj, AV.int IntKind.i64 t_390, jj, jj, jj, jj, jj, jj, jj, jj, jj, jj, jj, jj, jj, jj, jj, jj, jj, jj, jj, jj, jj, jj, jj, jj, jj, jj, jj, jj, jj, jj, jj, jj, jj, jj, jj, jj, jj, jj, jj, jj, jj, jj, jj, jj, jj, jj, jj, jj, jj] [] (0 : Nat))) (cellarerref05_piece_res r) (cellarerref05_piece_out r)) h (fun t_390 h => ?_) (fun s_419 x412 h412 K412 => ?_)
  ·
    refine W.at 0 100000 [] [0, 5, 6] (c' := (fun (s_420 : Int) => (Cfg.mk Mode.run (headTodo Go.Proofs.Tryd.prog 36 1) (St.mk [AV.str s_382, jj, jj, jj, jj, AV.int IntKind.i64 t_390, AV.int IntKind.i64 s_420, jj, jj, jj, jj, jj, jj, jj, jj, jj, jj, jj, jj, jj, jj, jj, jj, jj, jj, jj, jj, jj, jj, jj, jj, jj, jj, jj, jj, jj, jj, jj, jj, jj, jj, jj, jj, jj, jj, jj, jj, jj, jj, jj, jj, jj, jj, jj, jj] [] (0 : Nat)))) (t_390)) (by kernel_rfl) ?_
    refine W.loop (fun (s_420 : Int) => (Cfg.mk Mode.run (headTodo Go.Proofs.Tryd.prog 36 1) (St.mk [AV.str s_382, jj, jj, jj, jj, AV.int IntKind.i64 t_390, AV.int IntKind.i64 s_420, jj, jj, jj, jj, jj, jj, jj, jj, jj, jj, jj, jj, jj, jj, jj, jj, jj, jj, jj, jj, jj, jj, jj, jj, jj, jj, jj, jj, jj, jj, jj, jj, jj, jj, jj, jj, jj, jj, jj, jj, jj, jj, jj, jj, jj, jj, jj, jj] [] (0 : Nat)))) (fun t_399 => Walk Go.Proofs.Tryd.prog 36 (Cfg.mk Mode.run ((headTodo Go.Proofs.Tryd.prog 36 1).drop 3) (St.mk [AV.str s_382, jj, jj, jj, jj, AV.int IntKind.i64 t_390, AV.int IntKind.i64 t_399, jj, jj, jj, jj, jj, jj, jj, jj, jj, jj, jj, jj, jj, jj, jj, jj, jj, jj, jj, jj, jj, jj, jj, jj, jj, jj, jj, jj, jj, jj, jj, jj, jj, jj, jj, jj, jj, jj, jj, jj, jj, jj, jj, jj, jj, jj, jj, jj] [] (0 : Nat))) (cellarerref05_piece_res r) (cellarerref05_piece_out r)) h (fun t_399 h => ?_) (fun s_420 x411 h411 K411 => ?_)
    ·
      refine W.needT 0 100000 h (by kernel_rfl) (fun h => ?_)
      refine W.at 0 100000 [] [0, 5, 6, 7] (c' := (fun (s_421 : List UInt8) => (Cfg.mk Mode.run (headTodo Go.Proofs.Tryd.prog 36 2) (St.mk [AV.str s_382, jj, jj, jj, jj, AV.int IntKind.i64 t_390, AV.int IntKind.i64 t_399, AV.str s_421, jj, jj, jj, jj, jj, jj, jj, jj, jj, jj, jj, jj, jj, jj, jj, jj, jj, jj, jj, jj, jj, jj, jj, jj, jj, jj, jj, jj, jj, jj, jj, jj, jj, jj, jj, jj, jj, jj, jj, jj, jj, jj, jj, jj, jj, jj, jj] [] (0 : Nat)))) (List.drop (Int.toNat t_390) (List.take (Int.toNat t_399) s_382))) (by kernel_rfl) ?_
      refine W.loop (fun (s_421 : List UInt8) => (Cfg.mk Mode.run (headTodo Go.Proofs.Tryd.prog 36 2) (St.mk [AV.str s_382, jj, jj, jj, jj, AV.int IntKind.i64 t_390, AV.int IntKind.i64 t_399, AV.str s_421, jj, jj, jj, jj, jj, jj, jj, jj, jj, jj, jj, jj, jj, jj, jj, jj, jj, jj, jj, jj, jj, jj, jj, jj, jj, jj, jj, jj, jj, jj, jj, jj, jj, jj, jj, jj, jj, jj, jj, jj, jj, jj, jj, jj, jj, jj, jj] [] (0 : Nat)))) (fun t_408 => Walk Go.Proofs.Tryd.prog 36 (Cfg.mk Mode.run ((headTodo Go.Proofs.Tryd.prog 36 2).drop 3) (St.mk [AV.str s_382, jj, jj, jj, jj, AV.int IntKind.i64 t_390, AV.int IntKind.i64 t_399, AV.str t_408, jj, jj, jj, jj, jj, jj, jj, jj, jj, jj, jj, jj, jj, jj, jj, jj, jj, jj, jj, jj, jj, jj, jj, jj, jj, jj, jj, jj, jj, jj, jj, jj, jj, jj, jj, jj, jj, jj, jj, jj, jj, jj, jj, jj, jj, jj, jj] [] (0 : Nat))) (cellarerref05_piece_res r) (cellarerref05_piece_out r)) h (fun t_408 h => ?_) (fun s_421 x410 h410 K410 => ?_)
      ·
        refine W.needT 0 100000 h (by kernel_rfl) (fun h => ?_)
        refine W.needT 0 100000 h (by kernel_rfl) (fun h => ?_)
        exact W.retT 0 100000 h (by kernel_rfl)
      · unfold cellarerref05_piece_b2 at h410
        refine W.join (fun t => (Sum.elim (fun t_404 => Walk Go.Proofs.Tryd.prog 36 (Cfg.mk Mode.run (seqTodo Go.Proofs.Tryd.prog 36 11) (St.mk [AV.str s_382, jj, jj, jj, jj, AV.int IntKind.i64 t_390, AV.int IntKind.i64 t_399, AV.str s_421, jj, jj, jj, jj, jj, jj, jj, jj, jj, jj, jj, jj, jj, jj, jj, jj, jj, jj, jj, jj, jj, jj, jj, jj, jj, jj, jj, jj, jj, jj, jj, jj, jj, jj, jj, jj, jj, jj, jj, jj, jj, jj, jj, jj, jj, jj, jj] [] (0 : Nat))) (cellarerref05_piece_res r) (cellarerref05_piece_out r)) (fun t_405 => Walk Go.Proofs.Tryd.prog 36 (Cfg.mk Mode.run ((seqTodo Go.Proofs.Tryd.prog 36 11).drop 3) (St.mk [AV.str s_382, jj, jj, jj, jj, AV.int IntKind.i64 t_390, AV.int IntKind.i64 t_399, AV.str s_421, jj, jj, jj, jj, jj, jj, jj, jj, jj, jj, jj, jj, jj, jj, jj, jj, jj, jj, jj, jj, jj, jj, jj, jj, jj, jj, jj, jj, jj, jj, jj, jj, jj, jj, jj, jj, jj, jj, jj, jj, jj, jj, jj, jj, jj, jj, jj] [] (0 : Nat))) (cellarerref05_piece_res r) (cellarerref05_piece_out r))) t) h410 (fun t h410 => ?_) (fun t407 h407 K407 => ?_)
        ·
          rcases t with t_404 | t_405
          · replace h410 := W.inl (h410)
            refine W.elimL (?_)
            refine W.needT 2 100000 h410 (by kernel_rfl) (fun h410 => ?_)
            cases h410; exact W.at 2 100000 [] [0, 5, 6, 7] (by kernel_rfl) K410
          · replace h410 := W.inr (h410)
            refine W.elimR (?_)
            cases h410; exact W.at 2 100000 [] [0, 5, 6, 7] (by kernel_rfl) K410
        · refine W.next 2 1 (by kernel_rfl) ?_
          refine W.cond 4 100000 h407 (by kernel_rfl) (fun h407 => ?_) (fun h407 => ?_)
          ·
            refine W.yes 4 100000 (by kernel_rfl) ?_
            refine W.needT 4 100000 h407 (by kernel_rfl) (fun h407 => ?_)
            refine W.yes 4 100000 (by kernel_rfl) ?_
            refine W.yes 4 100000 (by kernel_rfl) ?_
            refine W.cond 4 100000 h407 (by kernel_rfl) (fun h407 => ?_) (fun h407 => ?_)
            ·
              cases h407; exact W.at 4 100000 [] [0, 5, 6, 7] (by kernel_rfl) K407
            ·
              cases h407; exact W.at 4 100000 [] [0, 5, 6, 7] (by kernel_rfl) K407
          ·
            refine W.no 4 100000 (by kernel_rfl) ?_
            refine W.no 4 100000 (by kernel_rfl) ?_
            refine W.no 4 100000 (by kernel_rfl) ?_
            refine W.no 4 100000 (by kernel_rfl) ?_
            cases h407; exact W.at 4 100000 [] [0, 5, 6, 7] (by kernel_rfl) K407
    · unfold cellarerref05_piece_b1 at h411
      refine W.join (fun t => (Sum.elim (fun t_395 => Walk Go.Proofs.Tryd.prog 36 (Cfg.mk Mode.run (seqTodo Go.Proofs.Tryd.prog 36 7) (St.mk [AV.str s_382, jj, jj, jj, jj, AV.int IntKind.i64 t_390, AV.int IntKind.i64 s_420, jj, jj, jj, jj, jj, jj, jj, jj, jj, jj, jj, jj, jj, jj, jj, jj, jj, jj, jj, jj, jj, jj, jj, jj, jj, jj, jj, jj, jj, jj, jj, jj, jj, jj, jj, jj, jj, jj, jj, jj, jj, jj, jj, jj, jj, jj, jj, jj] [] (0 : Nat))) (cellarerref05_piece_res r) (cellarerref05_piece_out r)) (fun t_396 => Walk Go.Proofs.Tryd.prog 36 (Cfg.mk Mode.run ((seqTodo Go.Proofs.Tryd.prog 36 7).drop 3) (St.mk [AV.str s_382, jj, jj, jj, jj, AV.int IntKind.i64 t_390, AV.int IntKind.i64 s_420, jj, jj, jj, jj, jj, jj, jj, jj, jj, jj, jj, jj, jj, jj, jj, jj, jj, jj, jj, jj, jj, jj, jj, jj, jj, jj, jj, jj, jj, jj, jj, jj, jj, jj, jj, jj, jj, jj, jj, jj, jj, jj, jj, jj, jj, jj, jj, jj] [] (0 : Nat))) (cellarerref05_piece_res r) (cellarerref05_piece_out r))) t) h411 (fun t h411 => ?_) (fun t398 h398 K398 => ?_)
      ·
        rcases t with t_395 | t_396
        · replace h411 := W.inl (h411)
          refine W.elimL (?_)
          cases h411; exact W.at 2 100000 [] [0, 5, 6] (by kernel_rfl) K411
        · replace h411 := W.inr (h411)
          refine W.elimR (?_)
          cases h411; exact W.at 2 100000 [] [0, 5, 6] (by kernel_rfl) K411
      · refine W.next 2 1 (by kernel_rfl) ?_
        refine W.cond 4 100000 h398 (by kernel_rfl) (fun h398 => ?_) (fun h398 => ?_)
        ·
          refine W.yes 4 100000 (by kernel_rfl) ?_
          refine W.yes 4 100000 (by kernel_rfl) ?_
          refine W.needT 4 100000 h398 (by kernel_rfl) (fun h398 => ?_)
          refine W.yes 4 100000 (by kernel_rfl) ?_
          refine W.bind h398 fun a_394 ha_394 h398 => ?_
          refine W.call 4 100000 (by kernel_rfl) (cellarerref05_Digit_con ha_394) (by kernel_rfl) ?_
          refine W.yes 4 100000 (by kernel_rfl) ?_
          refine W.cond 4 100000 h398 (by kernel_rfl) (fun h398 => ?_) (fun h398 => ?_)
          ·
            cases h398; exact W.at 4 100000 [] [0, 5, 6] (by kernel_rfl) K398
          ·
            cases h398; exact W.at 4 100000 [] [0, 5, 6] (by kernel_rfl) K398
        ·
          refine W.no 4 100000 (by kernel_rfl) ?_
          refine W.no 4 100000 (by kernel_rfl) ?_
          refine W.no 4 100000 (by kernel_rfl) ?_
          refine W.no 4 100000 (by kernel_rfl) ?_
          refine W.no 4 100000 (by kernel_rfl) ?_
          cases h398; exact W.at 4 100000 [] [0, 5, 6] (by kernel_rfl) K398
  · unfold cellarerref05_piece_b0 at h412
    refine W.join (fun t => (Sum.elim (fun t_386 => Walk Go.Proofs.Tryd.prog 36 (Cfg.mk Mode.run (seqTodo Go.Proofs.Tryd.prog 36 3) (St.mk [AV.str s_382, jj, jj, jj, jj, AV.int IntKind.i64 s_419, jj, jj, jj, jj, jj, jj, jj, jj, jj, jj, jj, jj, jj, jj, jj, jj, jj, jj, jj, jj, jj, jj, jj, jj, jj, jj, jj, jj, jj, jj, jj, jj, jj, jj, jj, jj, jj, jj, jj, jj, jj, jj, jj, jj, jj, jj, jj, jj, jj] [] (0 : Nat))) (cellarerref05_piece_res r) (cellarerref05_piece_out r)) (fun t_387 => Walk Go.Proofs.Tryd.prog 36 (Cfg.mk Mode.run ((seqTodo Go.Proofs.Tryd.prog 36 3).drop 3) (St.mk [AV.str s_382, jj, jj, jj, jj, AV.int IntKind.i64 s_419, jj, jj, jj, jj, jj, jj, jj, jj, jj, jj, jj, jj, jj, jj, jj, jj, jj, jj, jj, jj, jj, jj, jj, jj, jj, jj, jj, jj, jj, jj, jj, jj, jj, jj, jj, jj, jj, jj, jj, jj, jj, jj, jj, jj, jj, jj, jj, jj, jj] [] (0 : Nat))) (cellarerref05_piece_res r) (cellarerref05_piece_out r))) t) h412 (fun t h412 => ?_) (fun t389 h389 K389 => ?_)
    ·
      rcases t with t_386 | t_387
      · replace h412 := W.inl (h412)
        refine W.elimL (?_)
        cases h412; exact W.at 2 100000 [] [0, 5] (by kernel_rfl) K412
      · replace h412 := W.inr (h412)
        refine W.elimR (?_)
        cases h412; exact W.at 2 100000 [] [0, 5] (by kernel_rfl) K412
    · refine W.next 2 1 (by kernel_rfl) ?_
      refine W.cond 4 100000 h389 (by kernel_rfl) (fun h389 => ?_) (fun h389 => ?_)
      ·
        refine W.yes 4 100000 (by kernel_rfl) ?_
        refine W.yes 4 100000 (by kernel_rfl) ?_
        refine W.needT 4 100000 h389 (by kernel_rfl) (fun h389 => ?_)
        refine W.yes 4 100000 (by kernel_rfl) ?_
        refine W.bind h389 fun a_385 ha_385 h389 => ?_
        refine W.call 4 100000 (by kernel_rfl) (cellarerref05_Digit_con ha_385) (by kernel_rfl) ?_
        refine W.yes 4 100000 (by kernel_rfl) ?_
        refine W.yes 4 100000 (by kernel_rfl) ?_
        refine W.cond 4 100000 h389 (by kernel_rfl) (fun h389 => ?_) (fun h389 => ?_)
        ·
          cases h389; exact W.at 4 100000 [] [0, 5] (by kernel_rfl) K389
        ·
          cases h389; exact W.at 4 100000 [] [0, 5] (by kernel_rfl) K389
      ·
        refine W.no 4 100000 (by kernel_rfl) ?_
        refine W.no 4 100000 (by kernel_rfl) ?_
        refine W.no 4 100000 (by kernel_rfl) ?_
        refine W.no 4 100000 (by kernel_rfl) ?_
        refine W.no 4 100000 (by kernel_rfl) ?_
        refine W.no 4 100000 (by kernel_rfl) ?_
        cases h389; exact W.at 4 100000 [] [0, 5] (by kernel_rfl) K389

theorem cellarerref05_weight_con {c_430 : Int} {r : Int} (h : cellarerref05_weight c_430 = some r) : Con Go.Proofs.Tryd.prog 46 [AV.int IntKind.u8 c_430] [] (cellarerref05_weight_res r) (cellarerref05_weight_out r) := by
  refine W.con (by kernel_rfl) ?_
  unfold cellarerref05_weight at h
  refine W.cond 0 100000 h (by kernel_rfl) (fun h => ?_) (fun h => ?_)
  ·
    exact W.retT 0 100000 h (by kernel_rfl)
  ·
    refine W.bind h fun a_431 ha_431 h => ?_
    refine W.call 0 100000 (by kernel_rfl) (cellarerref05_Letter_con ha_431) (by kernel_rfl) ?_
    refine W.cond 0 100000 h (by kernel_rfl) (fun h => ?_) (fun h => ?_)
    ·
      exact W.retT 0 100000 h (by kernel_rfl)
    ·
      exact W.retT 0 100000 h (by kernel_rfl)

theorem cellarerref05_words_con {a_424 : List UInt8} {b_425 : List UInt8} {r : Int} (h : cellarerref05_words a_424 b_425 = some r) : Con Go.Proofs.Tryd.prog 37 [AV.str a_424, AV.str b_425] [] (cellarerref05_words_res r) (cellarerref05_words_out r) := by
  refine W.con (by kernel_rfl) ?_
  unfold cellarerref05_words at h
  refine W.at 0 100000 [] [0, 1, 5] (c' := (fun (s_451 : Int) => (Cfg.mk Mode.run (headTodo Go.Proofs.Tryd.prog 37 0) (St.mk [AV.str a_424, AV.str b_425, jj, jj, jj, AV.int IntKind.i64 s_451, jj, jj, jj, jj, jj, jj, jj, jj, jj, jj, jj, jj, jj, jj, jj, jj, jj, jj, jj, jj, jj, jj, jj, jj, jj, jj, jj, jj, jj, jj, jj, jj, jj, jj, jj, jj] [] (0 : Nat)))) ((0 : Int))) (by kernel_rfl) ?_
  refine W.loop (fun (s_451 : Int) => (Cfg.mk Mode.run (headTodo Go.Proofs.Tryd.prog 37 0) (St.mk [AV.str a_424, AV.str b_425, jj, jj, jj, AV.int IntKind.i64 s_451, jj, jj, jj, jj, jj, jj, jj, jj, jj, jj, jj, jj, jj, jj, jj, jj, jj, jj, jj, jj, jj, jj, jj, jj, jj, jj, jj, jj, jj, jj, jj, jj, jj, jj, jj, jj] [] (0 : Nat)))) (fun t => (Sum.elim (fun t_445 => r = (t_445)) (fun t_446 => Walk Go.Proofs.Tryd.prog 37 (Cfg.mk Mode.run ((headTodo Go.Proofs.Tryd.prog 37 0).drop 3) (St.mk [jj, jj, jj, jj, jj, jj, jj, jj, jj, jj, jj, jj, jj, jj, jj, jj, jj, jj, jj, jj, jj, jj, jj, jj, jj, jj, jj, jj, jj, jj, jj, jj, jj, jj, jj, jj, jj, jj, jj, jj, jj, jj] [] (0 : Nat))) (cellarerref05_words_res r) (cellarerref05_words_out r))) t) h (fun t h => ?_) (fun s_451 x448 h448 K448 => ?_)
  ·
    rcases t with t_445 | t_446
    · replace h := W.inl (h)
      refine W.elimL (?_)
      exact (Option.some.inj h).symm
    · replace h := W.inr (h)
      refine W.elimR (?_)
      exact W.retT 0 100000 h (by kernel_rfl)
  · unfold cellarerref05_words_b0 at h448
    refine W.join (fun t => (Sum.elim (fun t_429 => Walk Go.Proofs.Tryd.prog 37 (Cfg.mk Mode.run (seqTodo Go.Proofs.Tryd.prog 37 3) (St.mk [AV.str a_424, AV.str b_425, jj, jj, jj, AV.int IntKind.i64 s_451, jj, jj, jj, jj, jj, jj, jj, jj, jj, jj, jj, jj, jj, jj, jj, jj, jj, jj, jj, jj, jj, jj, jj, jj, jj, jj, jj, jj, jj, jj, jj, jj, jj, jj, jj, jj] [] (0 : Nat))) (cellarerref05_words_res r) (cellarerref05_words_out r)) (fun t_442 => Walk Go.Proofs.Tryd.prog 37 (Cfg.mk Mode.run ((seqTodo Go.Proofs.Tryd.prog 37 3).drop 3) (St.mk [jj, jj, jj, jj, jj, jj, jj, jj, jj, jj, jj, jj, jj, jj, jj, jj, jj, jj, jj, jj, jj, jj, jj, jj, jj, jj, jj, jj, jj, jj, jj, jj, jj, jj, jj, jj, jj, jj, jj, jj, jj, jj] [] (0 : Nat))) (cellarerref05_words_res r) (cellarerref05_words_out r))) t) h448 (fun t h448 => ?_) (fun t444 h444 K444 => ?_)
    ·
      rcases t with t_429 | t_442
      · replace h448 := W.inl (h448)
        refine W.elimL (?_)
        refine W.join (fun t_436 => Walk Go.Proofs.Tryd.prog 37 (Cfg.mk Mode.run (seqTodo Go.Proofs.Tryd.prog 37 8) (St.mk [AV.str a_424, AV.str b_425, jj, jj, jj, AV.int IntKind.i64 s_451, AV.int IntKind.i64 t_436, AV.int IntKind.i64 (0 : Int), jj, jj, jj, jj, jj, jj, jj, jj, jj, jj, jj, jj, jj, jj, jj, jj, jj, jj, jj, jj, jj, jj, jj, jj, jj, jj, jj, jj, jj, jj, jj, jj, jj, jj] [] (0 : Nat))) (cellarerref05_words_res r) (cellarerref05_words_out r)) h448 (fun t_436 h448 => ?_) (fun t442 h442 K442 => ?_)
        ·
          refine W.join (fun t_439 => Walk Go.Proofs.Tryd.prog 37 (Cfg.mk Mode.run (seqTodo Go.Proofs.Tryd.prog 37 10) (St.mk [AV.str a_424, AV.str b_425, jj, jj, jj, AV.int IntKind.i64 s_451, AV.int IntKind.i64 t_436, AV.int IntKind.i64 t_439, jj, jj, jj, jj, jj, jj, jj, jj, jj, jj, jj, jj, jj, jj, jj, jj, jj, jj, jj, jj, jj, jj, jj, jj, jj, jj, jj, jj, jj, jj, jj, jj, jj, jj] [] (0 : Nat))) (cellarerref05_words_res r) (cellarerref05_words_out r)) h448 (fun t_439 h448 => ?_) (fun t441 h441 K441 => ?_)
          ·
            refine W.cond 2 100000 h448 (by kernel_rfl) (fun h448 => ?_) (fun h448 => ?_)
            ·
              cases h448; exact W.retK 2 100000 K448 (by kernel_rfl)
            ·
              refine W.cond 2 100000 h448 (by kernel_rfl) (fun h448 => ?_) (fun h448 => ?_)
              ·
                cases h448; exact W.retK 2 100000 K448 (by kernel_rfl)
              ·
                cases h448; exact W.at 2 100000 [] [0, 1, 5] (by kernel_rfl) K448
          · refine W.next 2 1 (by kernel_rfl) ?_
            refine W.cond 6 100000 h441 (by kernel_rfl) (fun h441 => ?_) (fun h441 => ?_)
            ·
              refine W.needT 6 100000 h441 (by kernel_rfl) (fun h441 => ?_)
              refine W.bind h441 fun a_437 ha_437 h441 => ?_
              refine W.call 6 100000 (by kernel_rfl) (cellarerref05_weight_con ha_437) (by kernel_rfl) ?_
              cases h441; exact W.at 6 100000 [] [0, 1, 5, 6, 7] (by kernel_rfl) K441
            ·
              cases h441; exact W.at 6 100000 [] [0, 1, 5, 6, 7] (by kernel_rfl) K441
        · refine W.next 2 11 (by kernel_rfl) ?_
          refine W.cond 6 100000 h442 (by kernel_rfl) (fun h442 => ?_) (fun h442 => ?_)
          ·
            refine W.needT 6 100000 h442 (by kernel_rfl) (fun h442 => ?_)
            refine W.bind h442 fun a_434 ha_434 h442 => ?_
            refine W.call 6 100000 (by kernel_rfl) (cellarerref05_weight_con ha_434) (by kernel_rfl) ?_
            cases h442; exact W.at 6 100000 [] [0, 1, 5, 6, 7] (by kernel_rfl) K442
          ·
            cases h442; exact W.at 6 100000 [] [0, 1, 5, 6, 7] (by kernel_rfl) K442
      · replace h448 := W.inr (h448)
        refine W.elimR (?_)
        cases h448; exact W.at 2 100000 [] [] (by kernel_rfl) K448
    · refine W.next 2 1 (by kernel_rfl) ?_
      refine W.cond 4 100000 h444 (by kernel_rfl) (fun h444 => ?_) (fun h444 => ?_)
      ·
        refine W.yes 4 100000 (by kernel_rfl) ?_
        refine W.yes 4 100000 (by kernel_rfl) ?_
        refine W.yes 4 100000 (by kernel_rfl) ?_
        refine W.yes 4 100000 (by kernel_rfl) ?_
        refine W.yes 4 100000 (by kernel_rfl) ?_
        cases h444; exact W.at 4 100000 [] [0, 1, 5] (by kernel_rfl) K444
      ·
        refine W.no 4 100000 (by kernel_rfl) ?_
        refine W.no 4 100000 (by kernel_rfl) ?_
        refine W.no 4 100000 (by kernel_rfl) ?_
        refine W.no 4 100000 (by kernel_rfl) ?_
        refine W.cond 4 100000 h444 (by kernel_rfl) (fun h444 => ?_) (fun h444 => ?_)
        ·
          cases h444; exact W.at 4 100000 [] [0, 1, 5] (by kernel_rfl) K444
        ·
          cases h444; exact W.at 4 100000 [] [] (by kernel_rfl) K444

theorem cellarerref05_numbers_con {a_453 : List UInt8} {b_454 : List UInt8} {r : Int} (h : cellarerref05_numbers a_453 b_454 = some r) : Con Go.Proofs.Tryd.prog 38 [AV.str a_453, AV.str b_454] [] (cellarerref05_numbers_res r) (cellarerref05_numbers_out r) := by
  refine W.con (by kernel_rfl) ?_
  unfold cellarerref05_numbers at h
  refine W.cond 0 100000 h (by kernel_rfl) (fun h => ?_) (fun h => ?_)
  ·
    refine W.yes 0 100000 (by kernel_rfl) ?_
    refine W.yes 0 100000 (by kernel_rfl) ?_
    refine W.yes 0 100000 (by kernel_rfl) ?_
    refine W.yes 0 100000 (by kernel_rfl) ?_
    refine W.yes 0 100000 (by kernel_rfl) ?_
    refine W.yes 0 100000 (by kernel_rfl) ?_
    refine W.yes 0 100000 (by kernel_rfl) ?_
    refine W.yes 0 100000 (by kernel_rfl) ?_
    exact W.retT 0 100000 h (by kernel_rfl)
  ·
    refine W.no 0 100000 (by kernel_rfl) ?_
    refine W.no 0 100000 (by kernel_rfl) ?_
    refine W.no 0 100000 (by kernel_rfl) ?_
    refine W.no 0 100000 (by kernel_rfl) ?_
    refine W.no 0 100000 (by kernel_rfl) ?_
    refine W.cond 0 100000 h (by kernel_rfl) (fun h => ?_) (fun h => ?_)
    ·
      refine W.yes 0 100000 (by kernel_rfl) ?_
      refine W.yes 0 100000 (by kernel_rfl) ?_
      refine W.no 0 100000 (by kernel_rfl) ?_
      refine W.yes 0 100000 (by kernel_rfl) ?_
      refine W.no 0 100000 (by kernel_rfl) ?_
      refine W.cond 0 100000 h (by kernel_rfl) (fun h => ?_) (fun h => ?_)
      ·
        exact W.retT 0 100000 h (by kernel_rfl)
      ·
        refine W.cond 0 100000 h (by kernel_rfl) (fun h => ?_) (fun h => ?_)
        ·
          exact W.retT 0 100000 h (by kernel_rfl)
        ·
          exact W.retT 0 100000 h (by kernel_rfl)
    ·
      refine W.no 0 100000 (by kernel_rfl) ?_
      refine W.no 0 100000 (by kernel_rfl) ?_
      refine W.no 0 100000 (by kernel_rfl) ?_
      refine W.no 0 100000 (by kernel_rfl) ?_
      refine W.no 0 100000 (by kernel_rfl) ?_
      refine W.no 0 100000 (by kernel_rfl) ?_
      refine W.cond 0 100000 h (by kernel_rfl) (fun h => ?_) (fun h => ?_)
      ·
        exact W.retT 0 100000 h (by kernel_rfl)
      ·
        exact W.retT 0 100000 h (by kernel_rfl)

theorem cellarerref05_Order_con {a_377 : List UInt8} {b_378 : List UInt8} {r : Int} (h : cellarerref05_Order a_377 b_378 = some r) : Con Go.Proofs.Tryd.prog 16 [AV.str a_377, AV.str b_378] [] (cellarerref05_Order_res r) (cellarerref05_Order_out r) := by
  refine W.con (by kernel_rfl) ?_
  unfold cellarerref05_Order at h
  refine W.at 0 100000 [] [0, 1] (c' := (fun (s_467 : List UInt8 × List UInt8) => (Cfg.mk Mode.run (headTodo Go.Proofs.Tryd.prog 16 0) (St.mk [AV.str (Prod.fst s_467), AV.str (Prod.snd s_467), jj, jj, jj, jj, jj, jj, jj, jj, jj, jj, jj, jj, jj, jj, jj, jj, jj, jj, jj, jj, jj, jj, jj, jj, jj, jj, jj, jj, jj, jj, jj, jj, jj, jj, jj, jj, jj, jj, jj, jj, jj, jj, jj] [] (0 : Nat)))) (a_377, b_378)) (by kernel_rfl) ?_
  refine W.loop (fun (s_467 : List UInt8 × List UInt8) => (Cfg.mk Mode.run (headTodo Go.Proofs.Tryd.prog 16 0) (St.mk [AV.str (Prod.fst s_467), AV.str (Prod.snd s_467), jj, jj, jj, jj, jj, jj, jj, jj, jj, jj, jj, jj, jj, jj, jj, jj, jj, jj, jj, jj, jj, jj, jj, jj, jj, jj, jj, jj, jj, jj, jj, jj, jj, jj, jj, jj, jj, jj, jj, jj, jj, jj, jj] [] (0 : Nat)))) (fun t => (Sum.elim (fun t_461 => r = (t_461)) (fun t_462 => Walk Go.Proofs.Tryd.prog 16 (Cfg.mk Mode.run ((headTodo Go.Proofs.Tryd.prog 16 0).drop 3) (St.mk [jj, jj, jj, jj, jj, jj, jj, jj, jj, jj, jj, jj, jj, jj, jj, jj, jj, jj, jj, jj, jj, jj, jj, jj, jj, jj, jj, jj, jj, jj, jj, jj, jj, jj, jj, jj, jj, jj, jj, jj, jj, jj, jj, jj, jj] [] (0 : Nat))) (cellarerref05_Order_res r) (cellarerref05_Order_out r))) t) h (fun t h => ?_) (fun s_467 x464 h464 K464 => ?_)
  ·
    rcases t with t_461 | t_462
    · replace h := W.inl (h)
      refine W.elimL (?_)
      exact (Option.some.inj h).symm
    · replace h := W.inr (h)
      refine W.elimR (?_)
      exact W.retT 0 100000 h (by kernel_rfl)
  · unfold cellarerref05_Order_b0 at h464
    refine W.join (fun t => (Sum.elim (fun t_381 => Walk Go.Proofs.Tryd.prog 16 (Cfg.mk Mode.run (seqTodo Go.Proofs.Tryd.prog 16 2) (St.mk [AV.str (Prod.fst s_467), AV.str (Prod.snd s_467), jj, jj, jj, jj, jj, jj, jj, jj, jj, jj, jj, jj, jj, jj, jj, jj, jj, jj, jj, jj, jj, jj, jj, jj, jj, jj, jj, jj, jj, jj, jj, jj, jj, jj, jj, jj, jj, jj, jj, jj, jj, jj, jj] [] (0 : Nat))) (cellarerref05_Order_res r) (cellarerref05_Order_out r)) (fun t_458 => Walk Go.Proofs.Tryd.prog 16 (Cfg.mk Mode.run ((seqTodo Go.Proofs.Tryd.prog 16 2).drop 3) (St.mk [jj, jj, jj, jj, jj, jj, jj, jj, jj, jj, jj, jj, jj, jj, jj, jj, jj, jj, jj, jj, jj, jj, jj, jj, jj, jj, jj, jj, jj, jj, jj, jj, jj, jj, jj, jj, jj, jj, jj, jj, jj, jj, jj, jj, jj] [] (0 : Nat))) (cellarerref05_Order_res r) (cellarerref05_Order_out r))) t) h464 (fun t h464 => ?_) (fun t460 h460 K460 => ?_)
    ·
      rcases t with t_381 | t_458
      · replace h464 := W.inl (h464)
        refine W.elimL (?_)
        refine W.bind h464 fun a_422 ha_422 h464 => ?_
        refine W.call 2 100000 (by kernel_rfl) (cellarerref05_piece_con ha_422) (by kernel_rfl) ?_
        refine W.bind h464 fun a_423 ha_423 h464 => ?_
        refine W.call 2 100000 (by kernel_rfl) (cellarerref05_piece_con ha_423) (by kernel_rfl) ?_
        refine W.bind h464 fun a_452 ha_452 h464 => ?_
        refine W.call 2 100000 (by kernel_rfl) (cellarerref05_words_con ha_452) (by kernel_rfl) ?_
        refine W.cond 2 100000 h464 (by kernel_rfl) (fun h464 => ?_) (fun h464 => ?_)
        ·
          cases h464; exact W.retK 2 100000 K464 (by kernel_rfl)
        ·
          refine W.bind h464 fun a_457 ha_457 h464 => ?_
          refine W.call 2 100000 (by kernel_rfl) (cellarerref05_numbers_con ha_457) (by kernel_rfl) ?_
          refine W.cond 2 100000 h464 (by kernel_rfl) (fun h464 => ?_) (fun h464 => ?_)
          ·
            cases h464; exact W.retK 2 100000 K464 (by kernel_rfl)
          ·
            cases h464; exact W.at 2 100000 [] [0, 1] (by kernel_rfl) K464
      · replace h464 := W.inr (h464)
        refine W.elimR (?_)
        cases h464; exact W.at 2 100000 [] [] (by kernel_rfl) K464
    · refine W.next 2 1 (by kernel_rfl) ?_
      refine W.cond 4 100000 h460 (by kernel_rfl) (fun h460 => ?_) (fun h460 => ?_)
      ·
        refine W.yes 4 100000 (by kernel_rfl) ?_
        refine W.yes 4 100000 (by kernel_rfl) ?_
        refine W.yes 4 100000 (by kernel_rfl) ?_
        cases h460; exact W.at 4 100000 [] [0, 1] (by kernel_rfl) K460
      ·
        refine W.no 4 100000 (by kernel_rfl) ?_
        refine W.no 4 100000 (by kernel_rfl) ?_
        refine W.cond 4 100000 h460 (by kernel_rfl) (fun h460 => ?_) (fun h460 => ?_)
        ·
          cases h460; exact W.at 4 100000 [] [0, 1] (by kernel_rfl) K460
        ·
          cases h460; exact W.at 4 100000 [] [] (by kernel_rfl) K460

theorem version_Best_con {l_469 : List (List UInt8)} {r : Int} (h : version_Best l_469 = some r) : Con Go.Proofs.Tryd.prog 17 [AV.list Ty.str l_469 Bool.false] [] (version_Best_res r) (version_Best_out r) := by
  refine W.con (by kernel_rfl) ?_
  unfold version_Best at h
  refine W.at 0 100000 [] [0, 3, 6, 7, 8] (c' := (fun (s_482 : Int × Int) => (Cfg.mk Mode.run (headTodo Go.Proofs.Tryd.prog 17 0) (St.mk [AV.list Ty.str l_469 Bool.false, jj, jj, AV.int IntKind.i64 (Prod.fst s_482), jj, jj, AV.list Ty.str l_469 Bool.false, AV.int IntKind.i64 (↑(List.length l_469) : Int), AV.int IntKind.i64 (Prod.snd s_482), jj, jj, jj, jj, jj, jj, jj, jj, jj, jj, jj, jj, jj, jj, jj, jj, jj, jj] [] (0 : Nat)))) ((-1 : Int), (0 : Int))) (by kernel_rfl) ?_
  refine W.loop (fun (s_482 : Int × Int) => (Cfg.mk Mode.run (headTodo Go.Proofs.Tryd.prog 17 0) (St.mk [AV.list Ty.str l_469 Bool.false, jj, jj, AV.int IntKind.i64 (Prod.fst s_482), jj, jj, AV.list Ty.str l_469 Bool.false, AV.int IntKind.i64 (↑(List.length l_469) : Int), AV.int IntKind.i64 (Prod.snd s_482), jj, jj, jj, jj, jj, jj, jj, jj, jj, jj, jj, jj, jj, jj, jj, jj, jj, jj] [] (0 : Nat)))) (fun t_477 => Walk Go.Proofs.Tryd.prog 17 (Cfg.mk Mode.run ((headTodo Go.Proofs.Tryd.prog 17 0).drop 3) (St.mk [jj, jj, jj, AV.int IntKind.i64 t_477, jj, jj, jj, jj, jj, jj, jj, jj, jj, jj, jj, jj, jj, jj, jj, jj, jj, jj, jj, jj, jj, jj, jj] [] (0 : Nat))) (version_Best_res r) (version_Best_out r)) h (fun t_477 h => ?_) (fun s_482 x479 h479 K479 => ?_)
  ·
    exact W.retT 0 100000 h (by kernel_rfl)
  · unfold version_Best_b0 at h479
    refine W.cond 2 100000 h479 (by kernel_rfl) (fun h479 => ?_) (fun h479 => ?_)
    ·
      refine W.needT 2 100000 h479 (by kernel_rfl) (fun h479 => ?_)
      refine W.cond 2 100000 h479 (by kernel_rfl) (fun h479 => ?_) (fun h479 => ?_)
      ·
        refine W.yes 2 100000 (by kernel_rfl) ?_
        refine W.yes 2 100000 (by kernel_rfl) ?_
        refine W.yes 2 100000 (by kernel_rfl) ?_
        refine W.yes 2 100000 (by kernel_rfl) ?_
        refine W.yes 2 100000 (by kernel_rfl) ?_
        refine W.yes 2 100000 (by kernel_rfl) ?_
        refine W.yes 2 100000 (by kernel_rfl) ?_
        refine W.yes 2 100000 (by kernel_rfl) ?_
        cases h479; exact W.at 2 100000 [] [0, 3, 6, 7, 8] (by kernel_rfl) K479
      ·
        refine W.no 2 100000 (by kernel_rfl) ?_
        refine W.no 2 100000 (by kernel_rfl) ?_
        refine W.no 2 100000 (by kernel_rfl) ?_
        refine W.needT 2 100000 h479 (by kernel_rfl) (fun h479 => ?_)
        refine W.no 2 100000 (by kernel_rfl) ?_
        refine W.no 2 100000 (by kernel_rfl) ?_
        refine W.bind h479 fun a_475 ha_475 h479 => ?_
        refine W.call 2 100000 (by kernel_rfl) (version_Compare_con ha_475) (by kernel_rfl) ?_
        refine W.no 2 100000 (by kernel_rfl) ?_
        refine W.no 2 100000 (by kernel_rfl) ?_
        refine W.cond 2 100000 h479 (by kernel_rfl) (fun h479 => ?_) (fun h479 => ?_)
        ·
          cases h479; exact W.at 2 100000 [] [0, 3, 6, 7, 8] (by kernel_rfl) K479
        ·
          cases h479; exact W.at 2 100000 [] [0, 3, 6, 7, 8] (by kernel_rfl) K479
    ·
      cases h479; exact W.at 2 100000 [] [3] (by kernel_rfl) K479

theorem cellarerref05_Compare_con {a_485 : List UInt8} {b_486 : List UInt8} {r : Int} (h : cellarerref05_Compare a_485 b_486 = some r) : Con Go.Proofs.Tryd.prog 18 [AV.str a_485, AV.str b_486] [] (cellarerref05_Compare_res r) (cellarerref05_Compare_out r) := by
  refine W.con (by kernel_rfl) ?_
  unfold cellarerref05_Compare at h
  refine W.bind h fun a_487 ha_487 h => ?_
  refine W.call 0 100000 (by kernel_rfl) (cellarerref05_Parse_con ha_487) (by kernel_rfl) ?_
  refine W.join (fun t_491 => Walk Go.Proofs.Tryd.prog 18 (Cfg.mk Mode.run (seqTodo Go.Proofs.Tryd.prog 18 2) (St.mk [jj, AV.str b_486, jj, jj, jj, AV.ptr (0 : Nat) (0 : Nat), jj, jj, jj, jj, jj, jj, jj, jj, jj, jj, jj, jj, jj, jj, jj, jj, jj, jj, jj, jj, jj, jj, jj, jj, jj, jj, jj, jj, jj, jj, jj, jj, jj, jj, jj, jj, jj, jj, jj, jj, jj, jj, jj, jj, jj, jj, jj] [AO.box [AV.int IntKind.i64 (Prod.fst t_491), AV.str (Prod.fst (Prod.snd t_491)), AV.str (Prod.snd (Prod.snd t_491))]] (0 : Nat))) (cellarerref05_Compare_res r) (cellarerref05_Compare_out r)) h (fun t_491 h => ?_) (fun t501 h501 K501 => ?_)
  ·
    refine W.bind h fun a_492 ha_492 h => ?_
    refine W.call 0 100000 (by kernel_rfl) (cellarerref05_Parse_con ha_492) (by kernel_rfl) ?_
    refine W.join (fun t_496 => Walk Go.Proofs.Tryd.prog 18 (Cfg.mk Mode.run (seqTodo Go.Proofs.Tryd.prog 18 5) (St.mk [jj, jj, jj, jj, jj, AV.ptr (0 : Nat) (0 : Nat), jj, AV.ptr (1 : Nat) (0 : Nat), jj, jj, jj, jj, jj, jj, jj, jj, jj, jj, jj, jj, jj, jj, jj, jj, jj, jj, jj, jj, jj, jj, jj, jj, jj, jj, jj, jj, jj, jj, jj, jj, jj, jj, jj, jj, jj, jj, jj, jj, jj, jj, jj, jj, jj] [AO.box [AV.int IntKind.i64 (Prod.fst t_491), AV.str (Prod.fst (Prod.snd t_491)), AV.str (Prod.snd (Prod.snd t_491))], AO.box [AV.int IntKind.i64 (Prod.fst t_496), AV.str (Prod.fst (Prod.snd t_496)), AV.str (Prod.snd (Prod.snd t_496))]] (0 : Nat))) (cellarerref05_Compare_res r) (cellarerref05_Compare_out r)) h (fun t_496 h => ?_) (fun t500 h500 K500 => ?_)
    ·
      refine W.cond 0 100000 h (by kernel_rfl) (fun h => ?_) (fun h => ?_)
      ·
        exact W.retT 0 100000 h (by kernel_rfl)
      ·
        refine W.cond 0 100000 h (by kernel_rfl) (fun h => ?_) (fun h => ?_)
        ·
          exact W.retT 0 100000 h (by kernel_rfl)
        ·
          refine W.bind h fun a_497 ha_497 h => ?_
          refine W.call 0 100000 (by kernel_rfl) (cellarerref05_Order_con ha_497) (by kernel_rfl) ?_
          refine W.cond 0 100000 h (by kernel_rfl) (fun h => ?_) (fun h => ?_)
          ·
            exact W.retT 0 100000 h (by kernel_rfl)
          ·
            refine W.bind h fun a_498 ha_498 h => ?_
            refine W.call 0 100000 (by kernel_rfl) (cellarerref05_Order_con ha_498) (by kernel_rfl) ?_
            exact W.retT 0 100000 h (by kernel_rfl)
    · refine W.next 0 8 (by kernel_rfl) ?_
      refine W.cond 1 100000 h500 (by kernel_rfl) (fun h500 => ?_) (fun h500 => ?_)
      ·
        cases h500; exact W.at 1 100000 [] [5, 7] (by kernel_rfl) K500
      ·
        cases h500; exact W.at 1 100000 [] [5, 7] (by kernel_rfl) K500
  · refine W.next 0 8 (by kernel_rfl) ?_
    refine W.cond 1 100000 h501 (by kernel_rfl) (fun h501 => ?_) (fun h501 => ?_)
    ·
      cases h501; exact W.at 1 100000 [] [1, 5] (by kernel_rfl) K501
    ·
      cases h501; exact W.at 1 100000 [] [1, 5] (by kernel_rfl) K501

theorem version_Holds_con {v_506 : List UInt8} {op_507 : List UInt8} {other_508 : List UInt8} {r : Bool} (h : version_Holds v_506 op_507 other_508 = some r) : Con Go.Proofs.Tryd.prog 19 [AV.str v_506, AV.str op_507, AV.str other_508] [] (version_Holds_res r) (version_Holds_out r) := by
  refine W.con (by kernel_rfl) ?_
  unfold version_Holds at h
  refine W.bind h fun a_509 ha_509 h => ?_
  refine W.call 0 100000 (by kernel_rfl) (version_Compare_con ha_509) (by kernel_rfl) ?_
  refine W.cond 0 100000 h (by kernel_rfl) (fun h => ?_) (fun h => ?_)
  ·
    exact W.retT 0 100000 h (by kernel_rfl)
  ·
    refine W.cond 0 100000 h (by kernel_rfl) (fun h => ?_) (fun h => ?_)
    ·
      exact W.retT 0 100000 h (by kernel_rfl)
    ·
      refine W.cond 0 100000 h (by kernel_rfl) (fun h => ?_) (fun h => ?_)
      ·
        exact W.retT 0 100000 h (by kernel_rfl)
      ·
        refine W.cond 0 100000 h (by kernel_rfl) (fun h => ?_) (fun h => ?_)
        ·
          exact W.retT 0 100000 h (by kernel_rfl)
        ·
          refine W.cond 0 100000 h (by kernel_rfl) (fun h => ?_) (fun h => ?_)
          ·
            exact W.retT 0 100000 h (by kernel_rfl)
          ·
            exact W.retT 0 100000 h (by kernel_rfl)

theorem cellarerref05_Holds_con {v_515 : List UInt8} {op_516 : List UInt8} {other_517 : List UInt8} {r : Bool} (h : cellarerref05_Holds v_515 op_516 other_517 = some r) : Con Go.Proofs.Tryd.prog 20 [AV.str v_515, AV.str op_516, AV.str other_517] [] (cellarerref05_Holds_res r) (cellarerref05_Holds_out r) := by
  refine W.con (by kernel_rfl) ?_
  unfold cellarerref05_Holds at h
  refine W.bind h fun a_518 ha_518 h => ?_
  refine W.call 0 100000 (by kernel_rfl) (cellarerref05_Compare_con ha_518) (by kernel_rfl) ?_
  refine W.cond 0 100000 h (by kernel_rfl) (fun h => ?_) (fun h => ?_)
  ·
    refine W.yes 0 100000 (by kernel_rfl) ?_
    refine W.yes 0 100000 (by kernel_rfl) ?_
    refine W.yes 0 100000 (by kernel_rfl) ?_
    refine W.yes 0 100000 (by kernel_rfl) ?_
    refine W.yes 0 100000 (by kernel_rfl) ?_
    refine W.yes 0 100000 (by kernel_rfl) ?_
    refine W.yes 0 100000 (by kernel_rfl) ?_
    refine W.yes 0 100000 (by kernel_rfl) ?_
    refine W.yes 0 100000 (by kernel_rfl) ?_
    refine W.yes 0 100000 (by kernel_rfl) ?_
    refine W.yes 0 100000 (by kernel_rfl) ?_
    refine W.yes 0 100000 (by kernel_rfl) ?_
    refine W.yes 0 100000 (by kernel_rfl) ?_
    refine W.yes 0 100000 (by kernel_rfl) ?_
    refine W.yes 0 100000 (by kernel_rfl) ?_
    refine W.yes 0 100000 (by kernel_rfl) ?_
    refine W.yes 0 100000 (by kernel_rfl) ?_
    refine W.yes 0 100000 (by kernel_rfl) ?_
    refine W.yes 0 100000 (by kernel_rfl) ?_
    refine W.yes 0 100000 (by kernel_rfl) ?_
    refine W.yes 0 100000 (by kernel_rfl) ?_
    refine W.yes 0 100000 (by kernel_rfl) ?_
    refine W.yes 0 100000 (by kernel_rfl) ?_
    refine W.yes 0 100000 (by kernel_rfl) ?_
    exact W.retT 0 100000 h (by kernel_rfl)
  ·
    refine W.no 0 100000 (by kernel_rfl) ?_
    refine W.no 0 100000 (by kernel_rfl) ?_
    refine W.cond 0 100000 h (by kernel_rfl) (fun h => ?_) (fun h => ?_)
    ·
      refine W.yes 0 100000 (by kernel_rfl) ?_
      refine W.no 0 100000 (by kernel_rfl) ?_
      refine W.yes 0 100000 (by kernel_rfl) ?_
      refine W.no 0 100000 (by kernel_rfl) ?_
      refine W.cond 0 100000 h (by kernel_rfl) (fun h => ?_) (fun h => ?_)
      ·
        refine W.yes 0 100000 (by kernel_rfl) ?_
        refine W.yes 0 100000 (by kernel_rfl) ?_
        refine W.yes 0 100000 (by kernel_rfl) ?_
        refine W.yes 0 100000 (by kernel_rfl) ?_
        refine W.yes 0 100000 (by kernel_rfl) ?_
        refine W.yes 0 100000 (by kernel_rfl) ?_
        refine W.yes 0 100000 (by kernel_rfl) ?_
        refine W.yes 0 100000 (by kernel_rfl) ?_
        refine W.yes 0 100000 (by kernel_rfl) ?_
        refine W.yes 0 100000 (by kernel_rfl) ?_
        refine W.yes 0 100000 (by kernel_rfl) ?_
        refine W.yes 0 100000 (by kernel_rfl) ?_
        refine W.yes 0 100000 (by kernel_rfl) ?_
        refine W.yes 0 100000 (by kernel_rfl) ?_
        refine W.yes 0 100000 (by kernel_rfl) ?_
        refine W.yes 0 100000 (by kernel_rfl) ?_
        refine W.yes 0 100000 (by kernel_rfl) ?_
        refine W.yes 0 100000 (by kernel_rfl) ?_
        refine W.yes 0 100000 (by kernel_rfl) ?_
        exact W.retT 0 100000 h (by kernel_rfl)
      ·
        refine W.no 0 100000 (by kernel_rfl) ?_
        refine W.no 0 100000 (by kernel_rfl) ?_
        refine W.cond 0 100000 h (by kernel_rfl) (fun h => ?_) (fun h => ?_)
        ·
          refine W.yes 0 100000 (by kernel_rfl) ?_
          refine W.no 0 100000 (by kernel_rfl) ?_
          refine W.yes 0 100000 (by kernel_rfl) ?_
          refine W.no 0 100000 (by kernel_rfl) ?_
          refine W.cond 0 100000 h (by kernel_rfl) (fun h => ?_) (fun h => ?_)
          ·
            refine W.yes 0 100000 (by kernel_rfl) ?_
            refine W.yes 0 100000 (by kernel_rfl) ?_
            refine W.yes 0 100000 (by kernel_rfl) ?_
            refine W.yes 0 100000 (by kernel_rfl) ?_
            refine W.yes 0 100000 (by kernel_rfl) ?_
            refine W.yes 0 100000 (by kernel_rfl) ?_
            refine W.yes 0 100000 (by kernel_rfl) ?_
            refine W.yes 0 100000 (by kernel_rfl) ?_
            refine W.yes 0 100000 (by kernel_rfl) ?_
            refine W.yes 0 100000 (by kernel_rfl) ?_
            refine W.yes 0 100000 (by kernel_rfl) ?_
            refine W.yes 0 100000 (by kernel_rfl) ?_
            refine W.yes 0 100000 (by kernel_rfl) ?_
            refine W.yes 0 100000 (by kernel_rfl) ?_
            exact W.retT 0 100000 h (by kernel_rfl)
          ·
            refine W.no 0 100000 (by kernel_rfl) ?_
            refine W.no 0 100000 (by kernel_rfl) ?_
            refine W.cond 0 100000 h (by kernel_rfl) (fun h => ?_) (fun h => ?_)
            ·
              refine W.yes 0 100000 (by kernel_rfl) ?_
              refine W.no 0 100000 (by kernel_rfl) ?_
              refine W.yes 0 100000 (by kernel_rfl) ?_
              refine W.no 0 100000 (by kernel_rfl) ?_
              refine W.cond 0 100000 h (by kernel_rfl) (fun h => ?_) (fun h => ?_)
              ·
                refine W.yes 0 100000 (by kernel_rfl) ?_
                refine W.yes 0 100000 (by kernel_rfl) ?_
                refine W.yes 0 100000 (by kernel_rfl) ?_
                refine W.yes 0 100000 (by kernel_rfl) ?_
                refine W.yes 0 100000 (by kernel_rfl) ?_
                refine W.yes 0 100000 (by kernel_rfl) ?_
                refine W.yes 0 100000 (by kernel_rfl) ?_
                refine W.yes 0 100000 (by kernel_rfl) ?_
                refine W.yes 0 100000 (by kernel_rfl) ?_
                exact W.retT 0 100000 h (by kernel_rfl)
              ·
                refine W.no 0 100000 (by kernel_rfl) ?_
                refine W.no 0 100000 (by kernel_rfl) ?_
                refine W.cond 0 100000 h (by kernel_rfl) (fun h => ?_) (fun h => ?_)
                ·
                  refine W.yes 0 100000 (by kernel_rfl) ?_
                  refine W.no 0 100000 (by kernel_rfl) ?_
                  refine W.yes 0 100000 (by kernel_rfl) ?_
                  refine W.no 0 100000 (by kernel_rfl) ?_
                  refine W.cond 0 100000 h (by kernel_rfl) (fun h => ?_) (fun h => ?_)
                  ·
                    refine W.yes 0 100000 (by kernel_rfl) ?_
                    refine W.yes 0 100000 (by kernel_rfl) ?_
                    refine W.yes 0 100000 (by kernel_rfl) ?_
                    refine W.yes 0 100000 (by kernel_rfl) ?_
                    exact W.retT 0 100000 h (by kernel_rfl)
                  ·
                    refine W.no 0 100000 (by kernel_rfl) ?_
                    refine W.no 0 100000 (by kernel_rfl) ?_
                    refine W.cond 0 100000 h (by kernel_rfl) (fun h => ?_) (fun h => ?_)
                    ·
                      refine W.yes 0 100000 (by kernel_rfl) ?_
                      refine W.no 0 100000 (by kernel_rfl) ?_
                      refine W.yes 0 100000 (by kernel_rfl) ?_
                      refine W.no 0 100000 (by kernel_rfl) ?_
                      exact W.retT 0 100000 h (by kernel_rfl)
                    ·
                      refine W.no 0 100000 (by kernel_rfl) ?_
                      refine W.no 0 100000 (by kernel_rfl) ?_
                      refine W.no 0 100000 (by kernel_rfl) ?_
                      refine W.no 0 100000 (by kernel_rfl) ?_
                      exact W.retT 0 100000 h (by kernel_rfl)
                ·
                  refine W.no 0 100000 (by kernel_rfl) ?_
                  refine W.no 0 100000 (by kernel_rfl) ?_
                  refine W.no 0 100000 (by kernel_rfl) ?_
                  refine W.no 0 100000 (by kernel_rfl) ?_
                  refine W.no 0 100000 (by kernel_rfl) ?_
                  refine W.no 0 100000 (by kernel_rfl) ?_
                  refine W.no 0 100000 (by kernel_rfl) ?_
                  refine W.cond 0 100000 h (by kernel_rfl) (fun h => ?_) (fun h => ?_)
                  ·
                    refine W.yes 0 100000 (by kernel_rfl) ?_
                    refine W.no 0 100000 (by kernel_rfl) ?_
                    refine W.yes 0 100000 (by kernel_rfl) ?_
                    refine W.no 0 100000 (by kernel_rfl) ?_
                    exact W.retT 0 100000 h (by kernel_rfl)
                  ·
                    refine W.no 0 100000 (by kernel_rfl) ?_
                    refine W.no 0 100000 (by kernel_rfl) ?_
                    refine W.no 0 100000 (by kernel_rfl) ?_
                    refine W.no 0 100000 (by kernel_rfl) ?_
                    exact W.retT 0 100000 h (by kernel_rfl)
            ·
              refine W.no 0 100000 (by kernel_rfl) ?_
              refine W.no 0 100000 (by kernel_rfl) ?_
              refine W.no 0 100000 (by kernel_rfl) ?_
              refine W.no 0 100000 (by kernel_rfl) ?_
              refine W.no 0 100000 (by kernel_rfl) ?_
              refine W.no 0 100000 (by kernel_rfl) ?_
              refine W.no 0 100000 (by kernel_rfl) ?_
              refine W.cond 0 100000 h (by kernel_rfl) (fun h => ?_) (fun h => ?_)
              ·
                refine W.yes 0 100000 (by kernel_rfl) ?_
                refine W.no 0 100000 (by kernel_rfl) ?_
                refine W.yes 0 100000 (by kernel_rfl) ?_
                refine W.no 0 100000 (by kernel_rfl) ?_
                refine W.cond 0 100000 h (by kernel_rfl) (fun h => ?_) (fun h => ?_)
                ·
                  refine W.yes 0 100000 (by kernel_rfl) ?_
                  refine W.yes 0 100000 (by kernel_rfl) ?_
                  refine W.yes 0 100000 (by kernel_rfl) ?_
                  refine W.yes 0 100000 (by kernel_rfl) ?_
                  exact W.retT 0 100000 h (by kernel_rfl)
                ·
                  refine W.no 0 100000 (by kernel_rfl) ?_
                  refine W.no 0 100000 (by kernel_rfl) ?_
                  refine W.cond 0 100000 h (by kernel_rfl) (fun h => ?_) (fun h => ?_)
                  ·
                    refine W.yes 0 100000 (by kernel_rfl) ?_
                    refine W.no 0 100000 (by kernel_rfl) ?_
                    refine W.yes 0 100000 (by kernel_rfl) ?_
                    refine W.no 0 100000 (by kernel_rfl) ?_
                    exact W.retT 0 100000 h (by kernel_rfl)
                  ·
                    refine W.no 0 100000 (by kernel_rfl) ?_
                    refine W.no 0 100000 (by kernel_rfl) ?_
                    refine W.no 0 100000 (by kernel_rfl) ?_
                    refine W.no 0 100000 (by kernel_rfl) ?_
                    exact W.retT 0 100000 h (by kernel_rfl)
              ·
                refine W.no 0 100000 (by kernel_rfl) ?_
                refine W.no 0 100000 (by kernel_rfl) ?_
                refine W.no 0 100000 (by kernel_rfl) ?_
                refine W.no 0 100000 (by kernel_rfl) ?_
                refine W.no 0 100000 (by kernel_rfl) ?_
                refine W.no 0 100000 (by kernel_rfl) ?_
                refine W.no 0 100000 (by kernel_rfl) ?_
                refine W.cond 0 100000 h (by kernel_rfl) (fun h => ?_) (fun h => ?_)
                ·
                  refine W.yes 0 100000 (by kernel_rfl) ?_
                  refine W.no 0 100000 (by kernel_rfl) ?_
                  refine W.yes 0 100000 (by kernel_rfl) ?_
                  refine W.no 0 100000 (by kernel_rfl) ?_
                  exact W.retT 0 100000 h (by kernel_rfl)
                ·
                  refine W.no 0 100000 (by kernel_rfl) ?_
                  refine W.no 0 100000 (by kernel_rfl) ?_
                  refine W.no 0 100000 (by kernel_rfl) ?_
                  refine W.no 0 100000 (by kernel_rfl) ?_
                  exact W.retT 0 100000 h (by kernel_rfl)
        ·
          refine W.no 0 100000 (by kernel_rfl) ?_
          refine W.no 0 100000 (by kernel_rfl) ?_
          refine W.no 0 100000 (by kernel_rfl) ?_
          refine W.no 0 100000 (by kernel_rfl) ?_
          refine W.no 0 100000 (by kernel_rfl) ?_
          refine W.no 0 100000 (by kernel_rfl) ?_
          refine W.no 0 100000 (by kernel_rfl) ?_
          refine W.cond 0 100000 h (by kernel_rfl) (fun h => ?_) (fun h => ?_)
          ·
            refine W.yes 0 100000 (by kernel_rfl) ?_
            refine W.no 0 100000 (by kernel_rfl) ?_
            refine W.yes 0 100000 (by kernel_rfl) ?_
            refine W.no 0 100000 (by kernel_rfl) ?_
            refine W.cond 0 100000 h (by kernel_rfl) (fun h => ?_) (fun h => ?_)
            ·
              refine W.yes 0 100000 (by kernel_rfl) ?_
              refine W.yes 0 100000 (by kernel_rfl) ?_
              refine W.yes 0 100000 (by kernel_rfl) ?_
              refine W.yes 0 100000 (by kernel_rfl) ?_
              refine W.yes 0 100000 (by kernel_rfl) ?_
              refine W.yes 0 100000 (by kernel_rfl) ?_
              refine W.yes 0 100000 (by kernel_rfl) ?_
              refine W.yes 0 100000 (by kernel_rfl) ?_
              refine W.yes 0 100000 (by kernel_rfl) ?_
              exact W.retT 0 100000 h (by kernel_rfl)
            ·
              refine W.no 0 100000 (by kernel_rfl) ?_
              refine W.no 0 100000 (by kernel_rfl) ?_
              refine W.cond 0 100000 h (by kernel_rfl) (fun h => ?_) (fun h => ?_)
              ·
                refine W.yes 0 100000 (by kernel_rfl) ?_
                refine W.no 0 100000 (by kernel_rfl) ?_
                refine W.yes 0 100000 (by kernel_rfl) ?_
                refine W.no 0 100000 (by kernel_rfl) ?_
                refine W.cond 0 100000 h (by kernel_rfl) (fun h => ?_) (fun h => ?_)
                ·
                  refine W.yes 0 100000 (by kernel_rfl) ?_
                  refine W.yes 0 100000 (by kernel_rfl) ?_
                  refine W.yes 0 100000 (by kernel_rfl) ?_
                  refine W.yes 0 100000 (by kernel_rfl) ?_
                  exact W.retT 0 100000 h (by kernel_rfl)
                ·
                  refine W.no 0 100000 (by kernel_rfl) ?_
                  refine W.no 0 100000 (by kernel_rfl) ?_
                  refine W.cond 0 100000 h (by kernel_rfl) (fun h => ?_) (fun h => ?_)
                  ·
                    refine W.yes 0 100000 (by kernel_rfl) ?_
                    refine W.no 0 100000 (by kernel_rfl) ?_
                    refine W.yes 0 100000 (by kernel_rfl) ?_
                    refine W.no 0 100000 (by kernel_rfl) ?_
                    exact W.retT 0 100000 h (by kernel_rfl)
                  ·
                    refine W.no 0 100000 (by kernel_rfl) ?_
                    refine W.no 0 100000 (by kernel_rfl) ?_
                    refine W.no 0 100000 (by kernel_rfl) ?_
                    refine W.no 0 100000 (by kernel_rfl) ?_
                    exact W.retT 0 100000 h (by kernel_rfl)
              ·
                refine W.no 0 100000 (by kernel_rfl) ?_
                refine W.no 0 100000 (by kernel_rfl) ?_
                refine W.no 0 100000 (by kernel_rfl) ?_
                refine W.no 0 100000 (by kernel_rfl) ?_
                refine W.no 0 100000 (by kernel_rfl) ?_
                refine W.no 0 100000 (by kernel_rfl) ?_
                refine W.no 0 100000 (by kernel_rfl) ?_
                refine W.cond 0 100000 h (by kernel_rfl) (fun h => ?_) (fun h => ?_)
                ·
                  refine W.yes 0 100000 (by kernel_rfl) ?_
                  refine W.no 0 100000 (by kernel_rfl) ?_
                  refine W.yes 0 100000 (by kernel_rfl) ?_
                  refine W.no 0 100000 (by kernel_rfl) ?_
                  exact W.retT 0 100000 h (by kernel_rfl)
                ·
                  refine W.no 0 100000 (by kernel_rfl) ?_
                  refine W.no 0 100000 (by kernel_rfl) ?_
                  refine W.no 0 100000 (by kernel_rfl) ?_
                  refine W.no 0 100000 (by kernel_rfl) ?_
                  exact W.retT 0 100000 h (by kernel_rfl)
          ·
            refine W.no 0 100000 (by kernel_rfl) ?_
            refine W.no 0 100000 (by kernel_rfl) ?_
            refine W.no 0 100000 (by kernel_rfl) ?_
            refine W.no 0 100000 (by kernel_rfl) ?_
            refine W.no 0 100000 (by kernel_rfl) ?_
            refine W.no 0 100000 (by kernel_rfl) ?_
            refine W.no 0 100000 (by kernel_rfl) ?_
            refine W.cond 0 100000 h (by kernel_rfl) (fun h => ?_) (fun h => ?_)
            ·
              refine W.yes 0 100000 (by kernel_rfl) ?_
              refine W.no 0 100000 (by kernel_rfl) ?_
              refine W.yes 0 100000 (by kernel_rfl) ?_
              refine W.no 0 100000 (by kernel_rfl) ?_
              refine W.cond 0 100000 h (by kernel_rfl) (fun h => ?_) (fun h => ?_)
              ·
                refine W.yes 0 100000 (by kernel_rfl) ?_
                refine W.yes 0 100000 (by kernel_rfl) ?_
                refine W.yes 0 100000 (by kernel_rfl) ?_
                refine W.yes 0 100000 (by kernel_rfl) ?_
                exact W.retT 0 100000 h (by kernel_rfl)
              ·
                refine W.no 0 100000 (by kernel_rfl) ?_
                refine W.no 0 100000 (by kernel_rfl) ?_
                refine W.cond 0 100000 h (by kernel_rfl) (fun h => ?_) (fun h => ?_)
                ·
                  refine W.yes 0 100000 (by kernel_rfl) ?_
                  refine W.no 0 100000 (by kernel_rfl) ?_
                  refine W.yes 0 100000 (by kernel_rfl) ?_
                  refine W.no 0 100000 (by kernel_rfl) ?_
                  exact W.retT 0 100000 h (by kernel_rfl)
                ·
                  refine W.no 0 100000 (by kernel_rfl) ?_
                  refine W.no 0 100000 (by kernel_rfl) ?_
                  refine W.no 0 100000 (by kernel_rfl) ?_
                  refine W.no 0 100000 (by kernel_rfl) ?_
                  exact W.retT 0 100000 h (by kernel_rfl)
            ·
              refine W.no 0 100000 (by kernel_rfl) ?_
              refine W.no 0 100000 (by kernel_rfl) ?_
              refine W.no 0 100000 (by kernel_rfl) ?_
              refine W.no 0 100000 (by kernel_rfl) ?_
              refine W.no 0 100000 (by kernel_rfl) ?_
              refine W.no 0 100000 (by kernel_rfl) ?_
              refine W.no 0 100000 (by kernel_rfl) ?_
              refine W.cond 0 100000 h (by kernel_rfl) (fun h => ?_) (fun h => ?_)
              ·
                refine W.yes 0 100000 (by kernel_rfl) ?_
                refine W.no 0 100000 (by kernel_rfl) ?_
                refine W.yes 0 100000 (by kernel_rfl) ?_
                refine W.no 0 100000 (by kernel_rfl) ?_
                exact W.retT 0 100000 h (by kernel_rfl)
              ·
                refine W.no 0 100000 (by kernel_rfl) ?_
                refine W.no 0 100000 (by kernel_rfl) ?_
                refine W.no 0 100000 (by kernel_rfl) ?_
                refine W.no 0 100000 (by kernel_rfl) ?_
                exact W.retT 0 100000 h (by kernel_rfl)
    ·
      refine W.no 0 100000 (by kernel_rfl) ?_
      refine W.no 0 100000 (by kernel_rfl) ?_
      refine W.no 0 100000 (by kernel_rfl) ?_
      refine W.no 0 100000 (by kernel_rfl) ?_
      refine W.no 0 100000 (by kernel_rfl) ?_
      refine W.no 0 100000 (by kernel_rfl) ?_
      refine W.no 0 100000 (by kernel_rfl) ?_
      refine W.cond 0 100000 h (by kernel_rfl) (fun h => ?_) (fun h => ?_)
      ·
        refine W.yes 0 100000 (by kernel_rfl) ?_
        refine W.no 0 100000 (by kernel_rfl) ?_
        refine W.yes 0 100000 (by kernel_rfl) ?_
        refine W.no 0 100000 (by kernel_rfl) ?_
        refine W.cond 0 100000 h (by kernel_rfl) (fun h => ?_) (fun h => ?_)
        ·
          refine W.yes 0 100000 (by kernel_rfl) ?_
          refine W.yes 0 100000 (by kernel_rfl) ?_
          refine W.yes 0 100000 (by kernel_rfl) ?_
          refine W.yes 0 100000 (by kernel_rfl) ?_
          refine W.yes 0 100000 (by kernel_rfl) ?_
          refine W.yes 0 100000 (by kernel_rfl) ?_
          refine W.yes 0 100000 (by kernel_rfl) ?_
          refine W.yes 0 100000 (by kernel_rfl) ?_
          refine W.yes 0 100000 (by kernel_rfl) ?_
          refine W.yes 0 100000 (by kernel_rfl) ?_
          refine W.yes 0 100000 (by kernel_rfl) ?_
          refine W.yes 0 100000 (by kernel_rfl) ?_
          refine W.yes 0 100000 (by kernel_rfl) ?_
          refine W.yes 0 100000 (by kernel_rfl) ?_
          exact W.retT 0 100000 h (by kernel_rfl)
        ·
          refine W.no 0 100000 (by kernel_rfl) ?_
          refine W.no 0 100000 (by kernel_rfl) ?_
          refine W.cond 0 100000 h (by kernel_rfl) (fun h => ?_) (fun h => ?_)
          ·
            refine W.yes 0 100000 (by kernel_rfl) ?_
            refine W.no 0 100000 (by kernel_rfl) ?_
            refine W.yes 0 100000 (by kernel_rfl) ?_
            refine W.no 0 100000 (by kernel_rfl) ?_
            refine W.cond 0 100000 h (by kernel_rfl) (fun h => ?_) (fun h => ?_)
            ·
              refine W.yes 0 100000 (by kernel_rfl) ?_
              refine W.yes 0 100000 (by kernel_rfl) ?_
              refine W.yes 0 100000 (by kernel_rfl) ?_
              refine W.yes 0 100000 (by kernel_rfl) ?_
              refine W.yes 0 100000 (by kernel_rfl) ?_
              refine W.yes 0 100000 (by kernel_rfl) ?_
              refine W.yes 0 100000 (by kernel_rfl) ?_
              refine W.yes 0 100000 (by kernel_rfl) ?_
              refine W.yes 0 100000 (by kernel_rfl) ?_
              exact W.retT 0 100000 h (by kernel_rfl)
            ·
              refine W.no 0 100000 (by kernel_rfl) ?_
              refine W.no 0 100000 (by kernel_rfl) ?_
              refine W.cond 0 100000 h (by kernel_rfl) (fun h => ?_) (fun h => ?_)
              ·
                refine W.yes 0 100000 (by kernel_rfl) ?_
                refine W.no 0 100000 (by kernel_rfl) ?_
                refine W.yes 0 100000 (by kernel_rfl) ?_
                refine W.no 0 100000 (by kernel_rfl) ?_
                refine W.cond 0 100000 h (by kernel_rfl) (fun h => ?_) (fun h => ?_)
                ·
                  refine W.yes 0 100000 (by kernel_rfl) ?_
                  refine W.yes 0 100000 (by kernel_rfl) ?_
                  refine W.yes 0 100000 (by kernel_rfl) ?_
                  refine W.yes 0 100000 (by kernel_rfl) ?_
                  exact W.retT 0 100000 h (by kernel_rfl)
                ·
                  refine W.no 0 100000 (by kernel_rfl) ?_
                  refine W.no 0 100000 (by kernel_rfl) ?_
                  refine W.cond 0 100000 h (by kernel_rfl) (fun h => ?_) (fun h => ?_)
                  ·
                    refine W.yes 0 100000 (by kernel_rfl) ?_
                    refine W.no 0 100000 (by kernel_rfl) ?_
                    refine W.yes 0 100000 (by kernel_rfl) ?_
                    refine W.no 0 100000 (by kernel_rfl) ?_
                    exact W.retT 0 100000 h (by kernel_rfl)
                  ·
                    refine W.no 0 100000 (by kernel_rfl) ?_
                    refine W.no 0 100000 (by kernel_rfl) ?_
                    refine W.no 0 100000 (by kernel_rfl) ?_
                    refine W.no 0 100000 (by kernel_rfl) ?_
                    exact W.retT 0 100000 h (by kernel_rfl)
              ·
                refine W.no 0 100000 (by kernel_rfl) ?_
                refine W.no 0 100000 (by kernel_rfl) ?_
                refine W.no 0 100000 (by kernel_rfl) ?_
                refine W.no 0 100000 (by kernel_rfl) ?_
                refine W.no 0 100000 (by kernel_rfl) ?_
                refine W.no 0 100000 (by kernel_rfl) ?_
                refine W.no 0 100000 (by kernel_rfl) ?_
                refine W.cond 0 100000 h (by kernel_rfl) (fun h => ?_) (fun h => ?_)
                ·
                  refine W.yes 0 100000 (by kernel_rfl) ?_
                  refine W.no 0 100000 (by kernel_rfl) ?_
                  refine W.yes 0 100000 (by kernel_rfl) ?_
                  refine W.no 0 100000 (by kernel_rfl) ?_
                  exact W.retT 0 100000 h (by kernel_rfl)
                ·
                  refine W.no 0 100000 (by kernel_rfl) ?_
                  refine W.no 0 100000 (by kernel_rfl) ?_
                  refine W.no 0 100000 (by kernel_rfl) ?_
                  refine W.no 0 100000 (by kernel_rfl) ?_
                  exact W.retT 0 100000 h (by kernel_rfl)
          ·
            refine W.no 0 100000 (by kernel_rfl) ?_
            refine W.no 0 100000 (by kernel_rfl) ?_
            refine W.no 0 100000 (by kernel_rfl) ?_
            refine W.no 0 100000 (by kernel_rfl) ?_
            refine W.no 0 100000 (by kernel_rfl) ?_
            refine W.no 0 100000 (by kernel_rfl) ?_
            refine W.no 0 100000 (by kernel_rfl) ?_
            refine W.cond 0 100000 h (by kernel_rfl) (fun h => ?_) (fun h => ?_)
            ·
              refine W.yes 0 100000 (by kernel_rfl) ?_
              refine W.no 0 100000 (by kernel_rfl) ?_
              refine W.yes 0 100000 (by kernel_rfl) ?_
              refine W.no 0 100000 (by kernel_rfl) ?_
              refine W.cond 0 100000 h (by kernel_rfl) (fun h => ?_) (fun h => ?_)
              ·
                refine W.yes 0 100000 (by kernel_rfl) ?_
                refine W.yes 0 100000 (by kernel_rfl) ?_
                refine W.yes 0 100000 (by kernel_rfl) ?_
                refine W.yes 0 100000 (by kernel_rfl) ?_
                exact W.retT 0 100000 h (by kernel_rfl)
              ·
                refine W.no 0 100000 (by kernel_rfl) ?_
                refine W.no 0 100000 (by kernel_rfl) ?_
                refine W.cond 0 100000 h (by kernel_rfl) (fun h => ?_) (fun h => ?_)
                ·
                  refine W.yes 0 100000 (by kernel_rfl) ?_
                  refine W.no 0 100000 (by kernel_rfl) ?_
                  refine W.yes 0 100000 (by kernel_rfl) ?_
                  refine W.no 0 100000 (by kernel_rfl) ?_
                  exact W.retT 0 100000 h (by kernel_rfl)
                ·
                  refine W.no 0 100000 (by kernel_rfl) ?_
                  refine W.no 0 100000 (by kernel_rfl) ?_
                  refine W.no 0 100000 (by kernel_rfl) ?_
                  refine W.no 0 100000 (by kernel_rfl) ?_
                  exact W.retT 0 100000 h (by kernel_rfl)
            ·
              refine W.no 0 100000 (by kernel_rfl) ?_
              refine W.no 0 100000 (by kernel_rfl) ?_
              refine W.no 0 100000 (by kernel_rfl) ?_
              refine W.no 0 100000 (by kernel_rfl) ?_
              refine W.no 0 100000 (by kernel_rfl) ?_
              refine W.no 0 100000 (by kernel_rfl) ?_
              refine W.no 0 100000 (by kernel_rfl) ?_
              refine W.cond 0 100000 h (by kernel_rfl) (fun h => ?_) (fun h => ?_)
              ·
                refine W.yes 0 100000 (by kernel_rfl) ?_
                refine W.no 0 100000 (by kernel_rfl) ?_
                refine W.yes 0 100000 (by kernel_rfl) ?_
                refine W.no 0 100000 (by kernel_rfl) ?_
                exact W.retT 0 100000 h (by kernel_rfl)
              ·
                refine W.no 0 100000 (by kernel_rfl) ?_
                refine W.no 0 100000 (by kernel_rfl) ?_
                refine W.no 0 100000 (by kernel_rfl) ?_
                refine W.no 0 100000 (by kernel_rfl) ?_
                exact W.retT 0 100000 h (by kernel_rfl)
      ·
        refine W.no 0 100000 (by kernel_rfl) ?_
        refine W.no 0 100000 (by kernel_rfl) ?_
        refine W.no 0 100000 (by kernel_rfl) ?_
        refine W.no 0 100000 (by kernel_rfl) ?_
        refine W.no 0 100000 (by kernel_rfl) ?_
        refine W.no 0 100000 (by kernel_rfl) ?_
        refine W.no 0 100000 (by kernel_rfl) ?_
        refine W.cond 0 100000 h (by kernel_rfl) (fun h => ?_) (fun h => ?_)
        ·
          refine W.yes 0 100000 (by kernel_rfl) ?_
          refine W.no 0 100000 (by kernel_rfl) ?_
          refine W.yes 0 100000 (by kernel_rfl) ?_
          refine W.no 0 100000 (by kernel_rfl) ?_
          refine W.cond 0 100000 h (by kernel_rfl) (fun h => ?_) (fun h => ?_)
          ·
            refine W.yes 0 100000 (by kernel_rfl) ?_
            refine W.yes 0 100000 (by kernel_rfl) ?_
            refine W.yes 0 100000 (by kernel_rfl) ?_
            refine W.yes 0 100000 (by kernel_rfl) ?_
            refine W.yes 0 100000 (by kernel_rfl) ?_
            refine W.yes 0 100000 (by kernel_rfl) ?_
            refine W.yes 0 100000 (by kernel_rfl) ?_
            refine W.yes 0 100000 (by kernel_rfl) ?_
            refine W.yes 0 100000 (by kernel_rfl) ?_
            exact W.retT 0 100000 h (by kernel_rfl)
          ·
            refine W.no 0 100000 (by kernel_rfl) ?_
            refine W.no 0 100000 (by kernel_rfl) ?_
            refine W.cond 0 100000 h (by kernel_rfl) (fun h => ?_) (fun h => ?_)
            ·
              refine W.yes 0 100000 (by kernel_rfl) ?_
              refine W.no 0 100000 (by kernel_rfl) ?_
              refine W.yes 0 100000 (by kernel_rfl) ?_
              refine W.no 0 100000 (by kernel_rfl) ?_
              refine W.cond 0 100000 h (by kernel_rfl) (fun h => ?_) (fun h => ?_)
              ·
                refine W.yes 0 100000 (by kernel_rfl) ?_
                refine W.yes 0 100000 (by kernel_rfl) ?_
                refine W.yes 0 100000 (by kernel_rfl) ?_
                refine W.yes 0 100000 (by kernel_rfl) ?_
                exact W.retT 0 100000 h (by kernel_rfl)
              ·
                refine W.no 0 100000 (by kernel_rfl) ?_
                refine W.no 0 100000 (by kernel_rfl) ?_
                refine W.cond 0 100000 h (by kernel_rfl) (fun h => ?_) (fun h => ?_)
                ·
                  refine W.yes 0 100000 (by kernel_rfl) ?_
                  refine W.no 0 100000 (by kernel_rfl) ?_
                  refine W.yes 0 100000 (by kernel_rfl) ?_
                  refine W.no 0 100000 (by kernel_rfl) ?_
                  exact W.retT 0 100000 h (by kernel_rfl)
                ·
                  refine W.no 0 100000 (by kernel_rfl) ?_
                  refine W.no 0 100000 (by kernel_rfl) ?_
                  refine W.no 0 100000 (by kernel_rfl) ?_
                  refine W.no 0 100000 (by kernel_rfl) ?_
                  exact W.retT 0 100000 h (by kernel_rfl)
            ·
              refine W.no 0 100000 (by kernel_rfl) ?_
              refine W.no 0 100000 (by kernel_rfl) ?_
              refine W.no 0 100000 (by kernel_rfl) ?_
              refine W.no 0 100000 (by kernel_rfl) ?_
              refine W.no 0 100000 (by kernel_rfl) ?_
              refine W.no 0 100000 (by kernel_rfl) ?_
              refine W.no 0 100000 (by kernel_rfl) ?_
              refine W.cond 0 100000 h (by kernel_rfl) (fun h => ?_) (fun h => ?_)
              ·
                refine W.yes 0 100000 (by kernel_rfl) ?_
                refine W.no 0 100000 (by kernel_rfl) ?_
                refine W.yes 0 100000 (by kernel_rfl) ?_
                refine W.no 0 100000 (by kernel_rfl) ?_
                exact W.retT 0 100000 h (by kernel_rfl)
              ·
                refine W.no 0 100000 (by kernel_rfl) ?_
                refine W.no 0 100000 (by kernel_rfl) ?_
                refine W.no 0 100000 (by kernel_rfl) ?_
                refine W.no 0 100000 (by kernel_rfl) ?_
                exact W.retT 0 100000 h (by kernel_rfl)
        ·
          refine W.no 0 100000 (by kernel_rfl) ?_
          refine W.no 0 100000 (by kernel_rfl) ?_
          refine W.no 0 100000 (by kernel_rfl) ?_
          refine W.no 0 100000 (by kernel_rfl) ?_
          refine W.no 0 100000 (by kernel_rfl) ?_
          refine W.no 0 100000 (by kernel_rfl) ?_
          refine W.no 0 100000 (by kernel_rfl) ?_
          refine W.cond 0 100000 h (by kernel_rfl) (fun h => ?_) (fun h => ?_)
          ·
            refine W.yes 0 100000 (by kernel_rfl) ?_
            refine W.no 0 100000 (by kernel_rfl) ?_
            refine W.yes 0 100000 (by kernel_rfl) ?_
            refine W.no 0 100000 (by kernel_rfl) ?_
            refine W.cond 0 100000 h (by kernel_rfl) (fun h => ?_) (fun h => ?_)
            ·
              refine W.yes 0 100000 (by kernel_rfl) ?_
              refine W.yes 0 100000 (by kernel_rfl) ?_
              refine W.yes 0 100000 (by kernel_rfl) ?_
              refine W.yes 0 100000 (by kernel_rfl) ?_
              exact W.retT 0 100000 h (by kernel_rfl)
            ·
              refine W.no 0 100000 (by kernel_rfl) ?_
              refine W.no 0 100000 (by kernel_rfl) ?_
              refine W.cond 0 100000 h (by kernel_rfl) (fun h => ?_) (fun h => ?_)
              ·
                refine W.yes 0 100000 (by kernel_rfl) ?_
                refine W.no 0 100000 (by kernel_rfl) ?_
                refine W.yes 0 100000 (by kernel_rfl) ?_
                refine W.no 0 100000 (by kernel_rfl) ?_
                exact W.retT 0 100000 h (by kernel_rfl)
              ·
                refine W.no 0 100000 (by kernel_rfl) ?_
                refine W.no 0 100000 (by kernel_rfl) ?_
                refine W.no 0 100000 (by kernel_rfl) ?_
                refine W.no 0 100000 (by kernel_rfl) ?_
                exact W.retT 0 100000 h (by kernel_rfl)
          ·
            refine W.no 0 100000 (by kernel_rfl) ?_
            refine W.no 0 100000 (by kernel_rfl) ?_
            refine W.no 0 100000 (by kernel_rfl) ?_
            refine W.no 0 100000 (by kernel_rfl) ?_
            refine W.no 0 100000 (by kernel_rfl) ?_
            refine W.no 0 100000 (by kernel_rfl) ?_
            refine W.no 0 100000 (by kernel_rfl) ?_
            refine W.cond 0 100000 h (by kernel_rfl) (fun h => ?_) (fun h => ?_)
            ·
              refine W.yes 0 100000 (by kernel_rfl) ?_
              refine W.no 0 100000 (by kernel_rfl) ?_
              refine W.yes 0 100000 (by kernel_rfl) ?_
              refine W.no 0 100000 (by kernel_rfl) ?_
              exact W.retT 0 100000 h (by kernel_rfl)
            ·
              refine W.no 0 100000 (by kernel_rfl) ?_
              refine W.no 0 100000 (by kernel_rfl) ?_
              refine W.no 0 100000 (by kernel_rfl) ?_
              refine W.no 0 100000 (by kernel_rfl) ?_
              exact W.retT 0 100000 h (by kernel_rfl)

theorem cellarerlaw05_awake_con  {r : Bool} (h : cellarerlaw05_awake  = some r) : Con Go.Proofs.Tryd.prog 9 [] [] (cellarerlaw05_awake_res r) (cellarerlaw05_awake_out r) := by
  refine W.con (by kernel_rfl) ?_
  unfold cellarerlaw05_awake at h
  refine W.bind h fun a_525 ha_525 h => ?_
  refine W.call 0 100000 (by kernel_rfl) (version_Parse_con ha_525) (by kernel_rfl) ?_
  refine W.cond 0 100000 h (by kernel_rfl) (fun h => ?_) (fun h => ?_)
  ·
    refine W.yes 0 100000 (by kernel_rfl) ?_
    refine W.yes 0 100000 (by kernel_rfl) ?_
    refine W.yes 0 100000 (by kernel_rfl) ?_
    refine W.cond 0 100000 h (by kernel_rfl) (fun h => ?_) (fun h => ?_)
    ·
      refine W.yes 0 100000 (by kernel_rfl) ?_
      refine W.bind h fun a_526 ha_526 h => ?_
      refine W.call 0 100000 (by kernel_rfl) (version_Text_con ha_526) (by kernel_rfl) ?_
      refine W.yes 0 100000 (by kernel_rfl) ?_
      refine W.yes 0 100000 (by kernel_rfl) ?_
      refine W.cond 0 100000 h (by kernel_rfl) (fun h => ?_) (fun h => ?_)
      ·
        refine W.bind h fun a_527 ha_527 h => ?_
        refine W.call 0 100000 (by kernel_rfl) (version_Compare_con ha_527) (by kernel_rfl) ?_
        refine W.yes 0 100000 (by kernel_rfl) ?_
        refine W.yes 0 100000 (by kernel_rfl) ?_
        refine W.cond 0 100000 h (by kernel_rfl) (fun h => ?_) (fun h => ?_)
        ·
          refine W.bind h fun a_528 ha_528 h => ?_
          refine W.call 0 100000 (by kernel_rfl) (version_Compare_con ha_528) (by kernel_rfl) ?_
          refine W.yes 0 100000 (by kernel_rfl) ?_
          refine W.yes 0 100000 (by kernel_rfl) ?_
          refine W.cond 0 100000 h (by kernel_rfl) (fun h => ?_) (fun h => ?_)
          ·
            refine W.bind h fun a_529 ha_529 h => ?_
            refine W.call 0 100000 (by kernel_rfl) (version_Compare_con ha_529) (by kernel_rfl) ?_
            refine W.yes 0 100000 (by kernel_rfl) ?_
            refine W.yes 0 100000 (by kernel_rfl) ?_
            refine W.cond 0 100000 h (by kernel_rfl) (fun h => ?_) (fun h => ?_)
            ·
              refine W.bind h fun a_530 ha_530 h => ?_
              refine W.call 0 100000 (by kernel_rfl) (version_Compare_con ha_530) (by kernel_rfl) ?_
              refine W.yes 0 100000 (by kernel_rfl) ?_
              refine W.yes 0 100000 (by kernel_rfl) ?_
              exact W.retT 0 100000 h (by kernel_rfl)
            ·
              refine W.no 0 100000 (by kernel_rfl) ?_
              refine W.no 0 100000 (by kernel_rfl) ?_
              exact W.retT 0 100000 h (by kernel_rfl)
          ·
            refine W.no 0 100000 (by kernel_rfl) ?_
            refine W.no 0 100000 (by kernel_rfl) ?_
            refine W.no 0 100000 (by kernel_rfl) ?_
            refine W.no 0 100000 (by kernel_rfl) ?_
            refine W.no 0 100000 (by kernel_rfl) ?_
            exact W.retT 0 100000 h (by kernel_rfl)
        ·
          refine W.no 0 100000 (by kernel_rfl) ?_
          refine W.no 0 100000 (by kernel_rfl) ?_
          refine W.no 0 100000 (by kernel_rfl) ?_
          refine W.no 0 100000 (by kernel_rfl) ?_
          refine W.no 0 100000 (by kernel_rfl) ?_
          refine W.no 0 100000 (by kernel_rfl) ?_
          refine W.no 0 100000 (by kernel_rfl) ?_
          refine W.no 0 100000 (by kernel_rfl) ?_
          exact W.retT 0 100000 h (by kernel_rfl)
      ·
        refine W.no 0 100000 (by kernel_rfl) ?_
        refine W.no 0 100000 (by kernel_rfl) ?_
        refine W.no 0 100000 (by kernel_rfl) ?_
        refine W.no 0 100000 (by kernel_rfl) ?_
        refine W.no 0 100000 (by kernel_rfl) ?_
        refine W.no 0 100000 (by kernel_rfl) ?_
        refine W.no 0 100000 (by kernel_rfl) ?_
        refine W.no 0 100000 (by kernel_rfl) ?_
        refine W.no 0 100000 (by kernel_rfl) ?_
        refine W.no 0 100000 (by kernel_rfl) ?_
        refine W.no 0 100000 (by kernel_rfl) ?_
        exact W.retT 0 100000 h (by kernel_rfl)
    ·
      refine W.no 0 100000 (by kernel_rfl) ?_
      refine W.no 0 100000 (by kernel_rfl) ?_
      refine W.no 0 100000 (by kernel_rfl) ?_
      refine W.no 0 100000 (by kernel_rfl) ?_
      refine W.no 0 100000 (by kernel_rfl) ?_
      refine W.no 0 100000 (by kernel_rfl) ?_
      refine W.no 0 100000 (by kernel_rfl) ?_
      refine W.no 0 100000 (by kernel_rfl) ?_
      refine W.no 0 100000 (by kernel_rfl) ?_
      refine W.no 0 100000 (by kernel_rfl) ?_
      refine W.no 0 100000 (by kernel_rfl) ?_
      refine W.no 0 100000 (by kernel_rfl) ?_
      refine W.no 0 100000 (by kernel_rfl) ?_
      refine W.no 0 100000 (by kernel_rfl) ?_
      refine W.no 0 100000 (by kernel_rfl) ?_
      exact W.retT 0 100000 h (by kernel_rfl)
  ·
    refine W.no 0 100000 (by kernel_rfl) ?_
    refine W.no 0 100000 (by kernel_rfl) ?_
    refine W.no 0 100000 (by kernel_rfl) ?_
    refine W.no 0 100000 (by kernel_rfl) ?_
    refine W.no 0 100000 (by kernel_rfl) ?_
    refine W.no 0 100000 (by kernel_rfl) ?_
    refine W.no 0 100000 (by kernel_rfl) ?_
    refine W.no 0 100000 (by kernel_rfl) ?_
    refine W.no 0 100000 (by kernel_rfl) ?_
    refine W.no 0 100000 (by kernel_rfl) ?_
    refine W.no 0 100000 (by kernel_rfl) ?_
    refine W.no 0 100000 (by kernel_rfl) ?_
    refine W.no 0 100000 (by kernel_rfl) ?_
    refine W.no 0 100000 (by kernel_rfl) ?_
    refine W.no 0 100000 (by kernel_rfl) ?_
    refine W.no 0 100000 (by kernel_rfl) ?_
    refine W.no 0 100000 (by kernel_rfl) ?_
    refine W.no 0 100000 (by kernel_rfl) ?_
    refine W.no 0 100000 (by kernel_rfl) ?_
    exact W.retT 0 100000 h (by kernel_rfl)

theorem cellarerlaw05_VersionParses_con {s_524 : List UInt8} {r : Bool} (h : cellarerlaw05_VersionParses s_524 = some r) : Con Go.Proofs.Tryd.prog 3 [AV.str s_524] [] (cellarerlaw05_VersionParses_res r) (cellarerlaw05_VersionParses_out r) := by
  refine W.con (by kernel_rfl) ?_
  unfold cellarerlaw05_VersionParses at h
  refine W.cond 0 100000 h (by kernel_rfl) (fun h => ?_) (fun h => ?_)
  ·
    refine W.bind h fun a_533 ha_533 h => ?_
    refine W.call 0 100000 (by kernel_rfl) (cellarerlaw05_awake_con ha_533) (by kernel_rfl) ?_
    exact W.retT 0 100000 h (by kernel_rfl)
  ·
    refine W.bind h fun a_534 ha_534 h => ?_
    refine W.call 0 100000 (by kernel_rfl) (version_Parse_con ha_534) (by kernel_rfl) ?_
    refine W.bind h fun a_535 ha_535 h => ?_
    refine W.call 0 100000 (by kernel_rfl) (cellarerref05_Parse_con ha_535) (by kernel_rfl) ?_
    refine W.join (fun t => (Sum.elim (fun t_536 => r = (Bool.false)) (fun t_537 => Walk Go.Proofs.Tryd.prog 3 (Cfg.mk Mode.run (seqTodo Go.Proofs.Tryd.prog 3 6) (St.mk [AV.str s_524, jj, jj, AV.ptr (0 : Nat) (0 : Nat), AV.int IntKind.i64 (Prod.snd (Prod.snd (Prod.snd a_534))), jj, jj, jj, jj, jj, jj, jj, jj, jj, jj, jj, jj, jj, jj, jj, jj, jj, jj, jj, jj, jj, jj, jj, jj, jj, jj, jj, jj, jj, jj, jj, jj, jj, jj, jj, jj, jj, jj, jj, jj, jj, jj, jj, jj, jj, jj, jj, jj, jj, jj, jj, jj, jj, jj, jj, jj, jj, jj, jj, jj, jj, jj, jj] [AO.box [AV.int IntKind.i64 (Prod.fst a_534), AV.str (Prod.fst (Prod.snd a_534)), AV.str (Prod.fst (Prod.snd (Prod.snd a_534)))]] (0 : Nat))) (cellarerlaw05_VersionParses_res r) (cellarerlaw05_VersionParses_out r))) t) h (fun t h => ?_) (fun t548 h548 K548 => ?_)
    ·
      rcases t with t_536 | t_537
      · replace h := W.inl (h)
        refine W.elimL (?_)
        exact (Option.some.inj h).symm
      · replace h := W.inr (h)
        refine W.elimR (?_)
        refine W.cond 0 100000 h (by kernel_rfl) (fun h => ?_) (fun h => ?_)
        ·
          refine W.bind h fun a_538 ha_538 h => ?_
          refine W.call 0 100000 (by kernel_rfl) (cellarerlaw05_awake_con ha_538) (by kernel_rfl) ?_
          exact W.retT 0 100000 h (by kernel_rfl)
        ·
          refine W.bind h fun a_539 ha_539 h => ?_
          refine W.call 0 100000 (by kernel_rfl) (version_Text_con ha_539) (by kernel_rfl) ?_
          refine W.bind h fun a_540 ha_540 h => ?_
          refine W.call 0 100000 (by kernel_rfl) (version_Parse_con ha_540) (by kernel_rfl) ?_
          refine W.cond 0 100000 h (by kernel_rfl) (fun h => ?_) (fun h => ?_)
          ·
            refine W.yes 0 100000 (by kernel_rfl) ?_
            refine W.yes 0 100000 (by kernel_rfl) ?_
            refine W.yes 0 100000 (by kernel_rfl) ?_
            refine W.yes 0 100000 (by kernel_rfl) ?_
            refine W.yes 0 100000 (by kernel_rfl) ?_
            refine W.yes 0 100000 (by kernel_rfl) ?_
            refine W.yes 0 100000 (by kernel_rfl) ?_
            refine W.yes 0 100000 (by kernel_rfl) ?_
            refine W.cond 0 100000 h (by kernel_rfl) (fun h => ?_) (fun h => ?_)
            ·
              refine W.yes 0 100000 (by kernel_rfl) ?_
              refine W.yes 0 100000 (by kernel_rfl) ?_
              refine W.yes 0 100000 (by kernel_rfl) ?_
              refine W.yes 0 100000 (by kernel_rfl) ?_
              refine W.yes 0 100000 (by kernel_rfl) ?_
              refine W.yes 0 100000 (by kernel_rfl) ?_
              refine W.yes 0 100000 (by kernel_rfl) ?_
              refine W.bind h fun a_541 ha_541 h => ?_
              refine W.call 0 100000 (by kernel_rfl) (cellarerlaw05_awake_con ha_541) (by kernel_rfl) ?_
              refine W.yes 0 100000 (by kernel_rfl) ?_
              exact W.retT 0 100000 h (by kernel_rfl)
            ·
              refine W.no 0 100000 (by kernel_rfl) ?_
              refine W.no 0 100000 (by kernel_rfl) ?_
              refine W.bind h fun a_542 ha_542 h => ?_
              refine W.call 0 100000 (by kernel_rfl) (version_Compare_con ha_542) (by kernel_rfl) ?_
              refine W.no 0 100000 (by kernel_rfl) ?_
              refine W.yes 0 100000 (by kernel_rfl) ?_
              refine W.no 0 100000 (by kernel_rfl) ?_
              refine W.yes 0 100000 (by kernel_rfl) ?_
              refine W.cond 0 100000 h (by kernel_rfl) (fun h => ?_) (fun h => ?_)
              ·
                refine W.bind h fun a_543 ha_543 h => ?_
                refine W.call 0 100000 (by kernel_rfl) (cellarerlaw05_awake_con ha_543) (by kernel_rfl) ?_
                refine W.yes 0 100000 (by kernel_rfl) ?_
                exact W.retT 0 100000 h (by kernel_rfl)
              ·
                refine W.no 0 100000 (by kernel_rfl) ?_
                exact W.retT 0 100000 h (by kernel_rfl)
          ·
            refine W.no 0 100000 (by kernel_rfl) ?_
            refine W.no 0 100000 (by kernel_rfl) ?_
            refine W.cond 0 100000 h (by kernel_rfl) (fun h => ?_) (fun h => ?_)
            ·
              refine W.yes 0 100000 (by kernel_rfl) ?_
              refine W.yes 0 100000 (by kernel_rfl) ?_
              refine W.no 0 100000 (by kernel_rfl) ?_
              refine W.yes 0 100000 (by kernel_rfl) ?_
              refine W.no 0 100000 (by kernel_rfl) ?_
              refine W.cond 0 100000 h (by kernel_rfl) (fun h => ?_) (fun h => ?_)
              ·
                refine W.yes 0 100000 (by kernel_rfl) ?_
                refine W.yes 0 100000 (by kernel_rfl) ?_
                refine W.yes 0 100000 (by kernel_rfl) ?_
                refine W.cond 0 100000 h (by kernel_rfl) (fun h => ?_) (fun h => ?_)
                ·
                  refine W.yes 0 100000 (by kernel_rfl) ?_
                  refine W.yes 0 100000 (by kernel_rfl) ?_
                  refine W.yes 0 100000 (by kernel_rfl) ?_
                  refine W.yes 0 100000 (by kernel_rfl) ?_
                  refine W.yes 0 100000 (by kernel_rfl) ?_
                  refine W.yes 0 100000 (by kernel_rfl) ?_
                  refine W.yes 0 100000 (by kernel_rfl) ?_
                  refine W.bind h fun a_544 ha_544 h => ?_
                  refine W.call 0 100000 (by kernel_rfl) (cellarerlaw05_awake_con ha_544) (by kernel_rfl) ?_
                  refine W.yes 0 100000 (by kernel_rfl) ?_
                  exact W.retT 0 100000 h (by kernel_rfl)
                ·
                  refine W.no 0 100000 (by kernel_rfl) ?_
                  refine W.no 0 100000 (by kernel_rfl) ?_
                  refine W.bind h fun a_545 ha_545 h => ?_
                  refine W.call 0 100000 (by kernel_rfl) (version_Compare_con ha_545) (by kernel_rfl) ?_
                  refine W.no 0 100000 (by kernel_rfl) ?_
                  refine W.yes 0 100000 (by kernel_rfl) ?_
                  refine W.no 0 100000 (by kernel_rfl) ?_
                  refine W.yes 0 100000 (by kernel_rfl) ?_
                  refine W.cond 0 100000 h (by kernel_rfl) (fun h => ?_) (fun h => ?_)
                  ·
                    refine W.bind h fun a_546 ha_546 h => ?_
                    refine W.call 0 100000 (by kernel_rfl) (cellarerlaw05_awake_con ha_546) (by kernel_rfl) ?_
                    refine W.yes 0 100000 (by kernel_rfl) ?_
                    exact W.retT 0 100000 h (by kernel_rfl)
                  ·
                    refine W.no 0 100000 (by kernel_rfl) ?_
                    exact W.retT 0 100000 h (by kernel_rfl)
              ·
                refine W.no 0 100000 (by kernel_rfl) ?_
                refine W.no 0 100000 (by kernel_rfl) ?_
                refine W.no 0 100000 (by kernel_rfl) ?_
                refine W.no 0 100000 (by kernel_rfl) ?_
                refine W.no 0 100000 (by kernel_rfl) ?_
                refine W.no 0 100000 (by kernel_rfl) ?_
                refine W.no 0 100000 (by kernel_rfl) ?_
                exact W.retT 0 100000 h (by kernel_rfl)
            ·
              refine W.no 0 100000 (by kernel_rfl) ?_
              refine W.no 0 100000 (by kernel_rfl) ?_
              refine W.no 0 100000 (by kernel_rfl) ?_
              refine W.no 0 100000 (by kernel_rfl) ?_
              refine W.no 0 100000 (by kernel_rfl) ?_
              refine W.no 0 100000 (by kernel_rfl) ?_
              refine W.no 0 100000 (by kernel_rfl) ?_
              refine W.no 0 100000 (by kernel_rfl) ?_
              refine W.no 0 100000 (by kernel_rfl) ?_
              refine W.no 0 100000 (by kernel_rfl) ?_
              refine W.no 0 100000 (by kernel_rfl) ?_
              refine W.no 0 100000 (by kernel_rfl) ?_
              refine W.no 0 100000 (by kernel_rfl) ?_
              exact W.retT 0 100000 h (by kernel_rfl)
    · refine W.next 0 8 (by kernel_rfl) ?_
      refine W.cond 1 100000 h548 (by kernel_rfl) (fun h548 => ?_) (fun h548 => ?_)
      ·
        refine W.yes 1 100000 (by kernel_rfl) ?_
        refine W.yes 1 100000 (by kernel_rfl) ?_
        refine W.yes 1 100000 (by kernel_rfl) ?_
        refine W.yes 1 100000 (by kernel_rfl) ?_
        cases h548; exact W.retK 1 100000 K548 (by kernel_rfl)
      ·
        refine W.no 1 100000 (by kernel_rfl) ?_
        refine W.no 1 100000 (by kernel_rfl) ?_
        refine W.no 1 100000 (by kernel_rfl) ?_
        refine W.cond 1 100000 h548 (by kernel_rfl) (fun h548 => ?_) (fun h548 => ?_)
        ·
          cases h548; exact W.retK 1 100000 K548 (by kernel_rfl)
        ·
          cases h548; exact W.at 1 100000 [] [0, 3, 4] (by kernel_rfl) K548

theorem cellarerlaw05_VersionTexts_con {v_551 : Int} {v_552 : List UInt8} {v_553 : List UInt8} {r : Bool} (h : cellarerlaw05_VersionTexts v_551 v_552 v_553 = some r) : Con Go.Proofs.Tryd.prog 4 [AV.agg [AV.int IntKind.i64 v_551, AV.str v_552, AV.str v_553]] [] (cellarerlaw05_VersionTexts_res r) (cellarerlaw05_VersionTexts_out r) := by
  refine W.con (by kernel_rfl) ?_
  unfold cellarerlaw05_VersionTexts at h
  refine W.join (fun t => (Sum.elim (fun t_557 => r = (t_557)) (fun t_558 => Walk Go.Proofs.Tryd.prog 4 (Cfg.mk Mode.run (seqTodo Go.Proofs.Tryd.prog 4 1) (St.mk [jj, AV.ptr (0 : Nat) (0 : Nat), jj, jj, jj, jj, jj, jj, jj, jj, jj, jj, jj, jj, jj, jj, jj, jj, jj, jj, jj, jj] [AO.box [AV.int IntKind.i64 v_551, AV.str v_552, AV.str v_553]] (0 : Nat))) (cellarerlaw05_VersionTexts_res r) (cellarerlaw05_VersionTexts_out r))) t) h (fun t h => ?_) (fun t563 h563 K563 => ?_)
  ·
    rcases t with t_557 | t_558
    · replace h := W.inl (h)
      refine W.elimL (?_)
      exact (Option.some.inj h).symm
    · replace h := W.inr (h)
      refine W.elimR (?_)
      refine W.bind h fun a_559 ha_559 h => ?_
      refine W.call 0 100000 (by kernel_rfl) (version_Text_con ha_559) (by kernel_rfl) ?_
      refine W.bind h fun a_560 ha_560 h => ?_
      refine W.call 0 100000 (by kernel_rfl) (cellarerref05_Text_con ha_560) (by kernel_rfl) ?_
      refine W.cond 0 100000 h (by kernel_rfl) (fun h => ?_) (fun h => ?_)
      ·
        refine W.bind h fun a_561 ha_561 h => ?_
        refine W.call 0 100000 (by kernel_rfl) (cellarerlaw05_awake_con ha_561) (by kernel_rfl) ?_
        refine W.yes 0 100000 (by kernel_rfl) ?_
        exact W.retT 0 100000 h (by kernel_rfl)
      ·
        refine W.no 0 100000 (by kernel_rfl) ?_
        exact W.retT 0 100000 h (by kernel_rfl)
  · refine W.next 0 6 (by kernel_rfl) ?_
    refine W.cond 1 100000 h563 (by kernel_rfl) (fun h563 => ?_) (fun h563 => ?_)
    ·
      refine W.yes 1 100000 (by kernel_rfl) ?_
      refine W.yes 1 100000 (by kernel_rfl) ?_
      refine W.yes 1 100000 (by kernel_rfl) ?_
      refine W.yes 1 100000 (by kernel_rfl) ?_
      refine W.yes 1 100000 (by kernel_rfl) ?_
      refine W.bind h563 fun a_554 ha_554 h563 => ?_
      refine W.call 1 100000 (by kernel_rfl) (cellarerlaw05_awake_con ha_554) (by kernel_rfl) ?_
      cases h563; exact W.retK 1 100000 K563 (by kernel_rfl)
    ·
      refine W.no 1 100000 (by kernel_rfl) ?_
      refine W.no 1 100000 (by kernel_rfl) ?_
      refine W.no 1 100000 (by kernel_rfl) ?_
      refine W.no 1 100000 (by kernel_rfl) ?_
      refine W.cond 1 100000 h563 (by kernel_rfl) (fun h563 => ?_) (fun h563 => ?_)
      ·
        refine W.bind h563 fun a_555 ha_555 h563 => ?_
        refine W.call 1 100000 (by kernel_rfl) (cellarerlaw05_awake_con ha_555) (by kernel_rfl) ?_
        cases h563; exact W.retK 1 100000 K563 (by kernel_rfl)
      ·
        cases h563; exact W.at 1 100000 [] [1] (by kernel_rfl) K563

theorem cellarerlaw05_VersionOrders_con {a_567 : List UInt8} {b_568 : List UInt8} {r : Bool} (h : cellarerlaw05_VersionOrders a_567 b_568 = some r) : Con Go.Proofs.Tryd.prog 5 [AV.str a_567, AV.str b_568] [] (cellarerlaw05_VersionOrders_res r) (cellarerlaw05_VersionOrders_out r) := by
  refine W.con (by kernel_rfl) ?_
  unfold cellarerlaw05_VersionOrders at h
  refine W.join (fun t => (Sum.elim (fun t_572 => r = (t_572)) (fun t_573 => Walk Go.Proofs.Tryd.prog 5 (Cfg.mk Mode.run (seqTodo Go.Proofs.Tryd.prog 5 1) (St.mk [AV.str a_567, AV.str b_568, jj, jj, jj, jj, jj, jj, jj, jj, jj, jj, jj, jj, jj, jj, jj, jj, jj, jj, jj, jj, jj, jj, jj, jj, jj, jj, jj, jj, jj, jj, jj, jj, jj, jj, jj, jj, jj, jj] [] (0 : Nat))) (cellarerlaw05_VersionOrders_res r) (cellarerlaw05_VersionOrders_out r))) t) h (fun t h => ?_) (fun t580 h580 K580 => ?_)
  ·
    rcases t with t_572 | t_573
    · replace h := W.inl (h)
      refine W.elimL (?_)
      exact (Option.some.inj h).symm
    · replace h := W.inr (h)
      refine W.elimR (?_)
      refine W.bind h fun a_574 ha_574 h => ?_
      refine W.call 0 100000 (by kernel_rfl) (version_Order_con ha_574) (by kernel_rfl) ?_
      refine W.bind h fun a_575 ha_575 h => ?_
      refine W.call 0 100000 (by kernel_rfl) (cellarerref05_Order_con ha_575) (by kernel_rfl) ?_
      refine W.cond 0 100000 h (by kernel_rfl) (fun h => ?_) (fun h => ?_)
      ·
        refine W.yes 0 100000 (by kernel_rfl) ?_
        refine W.yes 0 100000 (by kernel_rfl) ?_
        refine W.bind h fun a_576 ha_576 h => ?_
        refine W.call 0 100000 (by kernel_rfl) (version_Order_con ha_576) (by kernel_rfl) ?_
        refine W.yes 0 100000 (by kernel_rfl) ?_
        refine W.yes 0 100000 (by kernel_rfl) ?_
        refine W.yes 0 100000 (by kernel_rfl) ?_
        refine W.yes 0 100000 (by kernel_rfl) ?_
        refine W.cond 0 100000 h (by kernel_rfl) (fun h => ?_) (fun h => ?_)
        ·
          refine W.yes 0 100000 (by kernel_rfl) ?_
          refine W.yes 0 100000 (by kernel_rfl) ?_
          refine W.bind h fun a_577 ha_577 h => ?_
          refine W.call 0 100000 (by kernel_rfl) (version_Order_con ha_577) (by kernel_rfl) ?_
          refine W.yes 0 100000 (by kernel_rfl) ?_
          refine W.yes 0 100000 (by kernel_rfl) ?_
          refine W.cond 0 100000 h (by kernel_rfl) (fun h => ?_) (fun h => ?_)
          ·
            refine W.bind h fun a_578 ha_578 h => ?_
            refine W.call 0 100000 (by kernel_rfl) (cellarerlaw05_awake_con ha_578) (by kernel_rfl) ?_
            refine W.yes 0 100000 (by kernel_rfl) ?_
            exact W.retT 0 100000 h (by kernel_rfl)
          ·
            refine W.no 0 100000 (by kernel_rfl) ?_
            exact W.retT 0 100000 h (by kernel_rfl)
        ·
          refine W.no 0 100000 (by kernel_rfl) ?_
          refine W.no 0 100000 (by kernel_rfl) ?_
          refine W.no 0 100000 (by kernel_rfl) ?_
          refine W.no 0 100000 (by kernel_rfl) ?_
          refine W.no 0 100000 (by kernel_rfl) ?_
          refine W.no 0 100000 (by kernel_rfl) ?_
          exact W.retT 0 100000 h (by kernel_rfl)
      ·
        refine W.no 0 100000 (by kernel_rfl) ?_
        refine W.no 0 100000 (by kernel_rfl) ?_
        refine W.no 0 100000 (by kernel_rfl) ?_
        refine W.no 0 100000 (by kernel_rfl) ?_
        refine W.no 0 100000 (by kernel_rfl) ?_
        refine W.no 0 100000 (by kernel_rfl) ?_
        refine W.no 0 100000 (by kernel_rfl) ?_
        refine W.no 0 100000 (by kernel_rfl) ?_
        refine W.no 0 100000 (by kernel_rfl) ?_
        refine W.no 0 100000 (by kernel_rfl) ?_
        refine W.no 0 100000 (by kernel_rfl) ?_
        refine W.no 0 100000 (by kernel_rfl) ?_
        refine W.no 0 100000 (by kernel_rfl) ?_
        exact W.retT 0 100000 h (by kernel_rfl)
  · refine W.next 0 5 (by kernel_rfl) ?_
    refine W.cond 1 100000 h580 (by kernel_rfl) (fun h580 => ?_) (fun h580 => ?_)
    ·
      refine W.yes 1 100000 (by kernel_rfl) ?_
      refine W.yes 1 100000 (by kernel_rfl) ?_
      refine W.yes 1 100000 (by kernel_rfl) ?_
      refine W.yes 1 100000 (by kernel_rfl) ?_
      refine W.bind h580 fun a_569 ha_569 h580 => ?_
      refine W.call 1 100000 (by kernel_rfl) (cellarerlaw05_awake_con ha_569) (by kernel_rfl) ?_
      cases h580; exact W.retK 1 100000 K580 (by kernel_rfl)
    ·
      refine W.no 1 100000 (by kernel_rfl) ?_
      refine W.no 1 100000 (by kernel_rfl) ?_
      refine W.no 1 100000 (by kernel_rfl) ?_
      refine W.cond 1 100000 h580 (by kernel_rfl) (fun h580 => ?_) (fun h580 => ?_)
      ·
        refine W.bind h580 fun a_570 ha_570 h580 => ?_
        refine W.call 1 100000 (by kernel_rfl) (cellarerlaw05_awake_con ha_570) (by kernel_rfl) ?_
        cases h580; exact W.retK 1 100000 K580 (by kernel_rfl)
      ·
        cases h580; exact W.at 1 100000 [] [0, 1] (by kernel_rfl) K580

end Go.Cellar
