/- What the program's functions come to: printed by a program, checked by Lean. No condition. -/
import Derived.Test.YtapokbncaidgdaaDoorFun19
import Derived.Test.YtapokbncaidgdaaDoorLib19
set_option maxRecDepth 4000
set_option linter.unusedVariables false
namespace Go.Cellar
open Go

theorem version_digit_con {c_1 : Int} {r : Bool} (h : version_digit c_1 = some r) : Con Go.Proofs.Tryd.prog 48 [AV.int IntKind.u8 c_1] [] (version_digit_res r) (version_digit_out r) := by
  refine W.con (by kernel_rfl) ?_
  unfold version_digit at h
  refine W.cond 0 100000 h (by kernel_rfl) (fun h => ?_) (fun h => ?_)
  ·
    refine W.yes 0 100000 (by kernel_rfl) ?_
    refine W.yes 0 100000 (by kernel_rfl) ?_
    exact W.retT 0 100000 h (by kernel_rfl)
  ·
    refine W.no 0 100000 (by kernel_rfl) ?_
    refine W.no 0 100000 (by kernel_rfl) ?_
    exact W.retT 0 100000 h (by kernel_rfl)

theorem version_letter_con {c_5 : Int} {r : Bool} (h : version_letter c_5 = some r) : Con Go.Proofs.Tryd.prog 64 [AV.int IntKind.u8 c_5] [] (version_letter_res r) (version_letter_out r) := by
  refine W.con (by kernel_rfl) ?_
  unfold version_letter at h
  refine W.cond 0 100000 h (by kernel_rfl) (fun h => ?_) (fun h => ?_)
  ·
    refine W.yes 0 100000 (by kernel_rfl) ?_
    refine W.yes 0 100000 (by kernel_rfl) ?_
    refine W.cond 0 100000 h (by kernel_rfl) (fun h => ?_) (fun h => ?_)
    ·
      refine W.yes 0 100000 (by kernel_rfl) ?_
      refine W.yes 0 100000 (by kernel_rfl) ?_
      refine W.yes 0 100000 (by kernel_rfl) ?_
      refine W.yes 0 100000 (by kernel_rfl) ?_
      exact W.retT 0 100000 h (by kernel_rfl)
    ·
      refine W.no 0 100000 (by kernel_rfl) ?_
      refine W.no 0 100000 (by kernel_rfl) ?_
      refine W.cond 0 100000 h (by kernel_rfl) (fun h => ?_) (fun h => ?_)
      ·
        refine W.yes 0 100000 (by kernel_rfl) ?_
        refine W.no 0 100000 (by kernel_rfl) ?_
        refine W.yes 0 100000 (by kernel_rfl) ?_
        refine W.no 0 100000 (by kernel_rfl) ?_
        exact W.retT 0 100000 h (by kernel_rfl)
      ·
        refine W.no 0 100000 (by kernel_rfl) ?_
        refine W.no 0 100000 (by kernel_rfl) ?_
        refine W.no 0 100000 (by kernel_rfl) ?_
        refine W.no 0 100000 (by kernel_rfl) ?_
        exact W.retT 0 100000 h (by kernel_rfl)
  ·
    refine W.no 0 100000 (by kernel_rfl) ?_
    refine W.no 0 100000 (by kernel_rfl) ?_
    refine W.no 0 100000 (by kernel_rfl) ?_
    refine W.no 0 100000 (by kernel_rfl) ?_
    refine W.no 0 100000 (by kernel_rfl) ?_
    refine W.cond 0 100000 h (by kernel_rfl) (fun h => ?_) (fun h => ?_)
    ·
      refine W.yes 0 100000 (by kernel_rfl) ?_
      refine W.no 0 100000 (by kernel_rfl) ?_
      refine W.yes 0 100000 (by kernel_rfl) ?_
      refine W.no 0 100000 (by kernel_rfl) ?_
      exact W.retT 0 100000 h (by kernel_rfl)
    ·
      refine W.no 0 100000 (by kernel_rfl) ?_
      refine W.no 0 100000 (by kernel_rfl) ?_
      refine W.no 0 100000 (by kernel_rfl) ?_
      refine W.no 0 100000 (by kernel_rfl) ?_
      exact W.retT 0 100000 h (by kernel_rfl)

theorem stringslite_IndexByte_con {s_12 : List UInt8} {c_13 : Int} {r : Int} (h : stringslite_IndexByte s_12 c_13 = some r) : Con Go.Proofs.Tryd.prog 62 [AV.str s_12, AV.int IntKind.u8 c_13] [] (stringslite_IndexByte_res r) (stringslite_IndexByte_out r) := by
  refine W.con (by kernel_rfl) ?_
  unfold stringslite_IndexByte at h
  refine W.needT 0 100000 h (by kernel_rfl) (fun h => ?_)
  exact W.retT 0 100000 h (by kernel_rfl)

theorem strings_IndexByte_con {s_10 : List UInt8} {c_11 : Int} {r : Int} (h : strings_IndexByte s_10 c_11 = some r) : Con Go.Proofs.Tryd.prog 45 [AV.str s_10, AV.int IntKind.u8 c_11] [] (strings_IndexByte_res r) (strings_IndexByte_out r) := by
  refine W.con (by kernel_rfl) ?_
  unfold strings_IndexByte at h
  refine W.bind h fun a_16 ha_16 h => ?_
  refine W.call 0 100000 (by kernel_rfl) (stringslite_IndexByte_con ha_16) (by kernel_rfl) ?_
  exact W.retT 0 100000 h (by kernel_rfl)

theorem bytealg_LastIndexByteString_con {s_23 : List UInt8} {c_24 : Int} {r : Int} (h : bytealg_LastIndexByteString s_23 c_24 = some r) : Con Go.Proofs.Tryd.prog 63 [AV.str s_23, AV.int IntKind.u8 c_24] [] (bytealg_LastIndexByteString_res r) (bytealg_LastIndexByteString_out r) := by
  refine W.con (by kernel_rfl) ?_
  unfold bytealg_LastIndexByteString at h
  refine W.at 0 100000 [] [0, 1, 5] (c' := (fun (s_35 : Int) => (Cfg.mk Mode.run (headTodo Go.Proofs.Tryd.prog 63 0) (St.mk [AV.str s_23, AV.int IntKind.u8 c_24, jj, jj, jj, AV.int IntKind.i64 s_35, jj, jj, jj, jj, jj, jj, jj, jj, jj, jj, jj, jj, jj] [] (0 : Nat)))) (IntKind.wrap IntKind.i64 ((↑(List.length s_23) : Int) - (1 : Int)))) (by kernel_rfl) ?_
  refine W.loop (fun (s_35 : Int) => (Cfg.mk Mode.run (headTodo Go.Proofs.Tryd.prog 63 0) (St.mk [AV.str s_23, AV.int IntKind.u8 c_24, jj, jj, jj, AV.int IntKind.i64 s_35, jj, jj, jj, jj, jj, jj, jj, jj, jj, jj, jj, jj, jj] [] (0 : Nat)))) (fun t => (Sum.elim (fun t_29 => r = (t_29)) (fun t_30 => Walk Go.Proofs.Tryd.prog 63 (Cfg.mk Mode.run ((headTodo Go.Proofs.Tryd.prog 63 0).drop 3) (St.mk [jj, jj, jj, jj, jj, jj, jj, jj, jj, jj, jj, jj, jj, jj, jj, jj, jj, jj, jj] [] (0 : Nat))) (bytealg_LastIndexByteString_res r) (bytealg_LastIndexByteString_out r))) t) h (fun t h => ?_) (fun s_35 x32 h32 K32 => ?_)
  ·
    rcases t with t_29 | t_30
    · replace h := W.inl (h)
      refine W.elimL (?_)
      exact (Option.some.inj h).symm
    · replace h := W.inr (h)
      refine W.elimR (?_)
      exact W.retT 0 100000 h (by kernel_rfl)
  · unfold bytealg_LastIndexByteString_b0 at h32
    refine W.cond 2 100000 h32 (by kernel_rfl) (fun h32 => ?_) (fun h32 => ?_)
    ·
      refine W.needT 2 100000 h32 (by kernel_rfl) (fun h32 => ?_)
      refine W.cond 2 100000 h32 (by kernel_rfl) (fun h32 => ?_) (fun h32 => ?_)
      ·
        cases h32; exact W.retK 2 100000 K32 (by kernel_rfl)
      ·
        cases h32; exact W.at 2 100000 [] [0, 1, 5] (by kernel_rfl) K32
    ·
      cases h32; exact W.at 2 100000 [] [] (by kernel_rfl) K32

theorem strings_LastIndexByte_con {s_21 : List UInt8} {c_22 : Int} {r : Int} (h : strings_LastIndexByte s_21 c_22 = some r) : Con Go.Proofs.Tryd.prog 47 [AV.str s_21, AV.int IntKind.u8 c_22] [] (strings_LastIndexByte_res r) (strings_LastIndexByte_out r) := by
  refine W.con (by kernel_rfl) ?_
  unfold strings_LastIndexByte at h
  refine W.bind h fun a_36 ha_36 h => ?_
  refine W.call 0 100000 (by kernel_rfl) (bytealg_LastIndexByteString_con ha_36) (by kernel_rfl) ?_
  exact W.retT 0 100000 h (by kernel_rfl)

theorem version_only_con {s_41 : List UInt8} {marks_42 : List UInt8} {r : Bool} (h : version_only s_41 marks_42 = some r) : Con Go.Proofs.Tryd.prog 49 [AV.str s_41, AV.str marks_42] [] (version_only_res r) (version_only_out r) := by
  refine W.con (by kernel_rfl) ?_
  unfold version_only at h
  refine W.at 0 100000 [] [0, 1, 7, 8] (c' := (fun (s_56 : Int) => (Cfg.mk Mode.run (headTodo Go.Proofs.Tryd.prog 49 0) (St.mk [AV.str s_41, AV.str marks_42, jj, jj, jj, jj, jj, AV.int IntKind.i64 (↑(List.length s_41) : Int), AV.int IntKind.i64 s_56, jj, jj, jj, jj, jj, jj, jj, jj, jj, jj, jj, jj, jj, jj, jj, jj, jj, jj, jj, jj, jj, jj, jj] [] (0 : Nat)))) ((0 : Int))) (by kernel_rfl) ?_
  refine W.loop (fun (s_56 : Int) => (Cfg.mk Mode.run (headTodo Go.Proofs.Tryd.prog 49 0) (St.mk [AV.str s_41, AV.str marks_42, jj, jj, jj, jj, jj, AV.int IntKind.i64 (↑(List.length s_41) : Int), AV.int IntKind.i64 s_56, jj, jj, jj, jj, jj, jj, jj, jj, jj, jj, jj, jj, jj, jj, jj, jj, jj, jj, jj, jj, jj, jj, jj] [] (0 : Nat)))) (fun t => (Sum.elim (fun t_50 => r = (Bool.false)) (fun t_51 => Walk Go.Proofs.Tryd.prog 49 (Cfg.mk Mode.run ((headTodo Go.Proofs.Tryd.prog 49 0).drop 3) (St.mk [jj, jj, jj, jj, jj, jj, jj, jj, jj, jj, jj, jj, jj, jj, jj, jj, jj, jj, jj, jj, jj, jj, jj, jj, jj, jj, jj, jj, jj, jj, jj, jj] [] (0 : Nat))) (version_only_res r) (version_only_out r))) t) h (fun t h => ?_) (fun s_56 x53 h53 K53 => ?_)
  ·
    rcases t with t_50 | t_51
    · replace h := W.inl (h)
      refine W.elimL (?_)
      exact (Option.some.inj h).symm
    · replace h := W.inr (h)
      refine W.elimR (?_)
      exact W.retT 0 100000 h (by kernel_rfl)
  · unfold version_only_b0 at h53
    refine W.cond 2 100000 h53 (by kernel_rfl) (fun h53 => ?_) (fun h53 => ?_)
    ·
      refine W.needT 2 100000 h53 (by kernel_rfl) (fun h53 => ?_)
      refine W.bind h53 fun a_47 ha_47 h53 => ?_
      refine W.call 2 100000 (by kernel_rfl) (version_digit_con ha_47) (by kernel_rfl) ?_
      refine W.cond 2 100000 h53 (by kernel_rfl) (fun h53 => ?_) (fun h53 => ?_)
      ·
        refine W.yes 2 100000 (by kernel_rfl) ?_
        refine W.yes 2 100000 (by kernel_rfl) ?_
        refine W.needT 2 100000 h53 (by kernel_rfl) (fun h53 => ?_)
        refine W.yes 2 100000 (by kernel_rfl) ?_
        refine W.bind h53 fun a_48 ha_48 h53 => ?_
        refine W.call 2 100000 (by kernel_rfl) (version_letter_con ha_48) (by kernel_rfl) ?_
        refine W.yes 2 100000 (by kernel_rfl) ?_
        refine W.yes 2 100000 (by kernel_rfl) ?_
        refine W.cond 2 100000 h53 (by kernel_rfl) (fun h53 => ?_) (fun h53 => ?_)
        ·
          refine W.yes 2 100000 (by kernel_rfl) ?_
          refine W.yes 2 100000 (by kernel_rfl) ?_
          refine W.yes 2 100000 (by kernel_rfl) ?_
          refine W.needT 2 100000 h53 (by kernel_rfl) (fun h53 => ?_)
          refine W.yes 2 100000 (by kernel_rfl) ?_
          refine W.bind h53 fun a_49 ha_49 h53 => ?_
          refine W.call 2 100000 (by kernel_rfl) (strings_IndexByte_con ha_49) (by kernel_rfl) ?_
          refine W.yes 2 100000 (by kernel_rfl) ?_
          refine W.yes 2 100000 (by kernel_rfl) ?_
          refine W.cond 2 100000 h53 (by kernel_rfl) (fun h53 => ?_) (fun h53 => ?_)
          ·
            cases h53; exact W.retK 2 100000 K53 (by kernel_rfl)
          ·
            cases h53; exact W.at 2 100000 [] [0, 1, 7, 8] (by kernel_rfl) K53
        ·
          refine W.no 2 100000 (by kernel_rfl) ?_
          refine W.no 2 100000 (by kernel_rfl) ?_
          refine W.no 2 100000 (by kernel_rfl) ?_
          refine W.no 2 100000 (by kernel_rfl) ?_
          refine W.no 2 100000 (by kernel_rfl) ?_
          refine W.no 2 100000 (by kernel_rfl) ?_
          refine W.no 2 100000 (by kernel_rfl) ?_
          cases h53; exact W.at 2 100000 [] [0, 1, 7, 8] (by kernel_rfl) K53
      ·
        refine W.no 2 100000 (by kernel_rfl) ?_
        refine W.no 2 100000 (by kernel_rfl) ?_
        refine W.no 2 100000 (by kernel_rfl) ?_
        refine W.no 2 100000 (by kernel_rfl) ?_
        refine W.no 2 100000 (by kernel_rfl) ?_
        refine W.no 2 100000 (by kernel_rfl) ?_
        refine W.no 2 100000 (by kernel_rfl) ?_
        refine W.no 2 100000 (by kernel_rfl) ?_
        refine W.no 2 100000 (by kernel_rfl) ?_
        refine W.no 2 100000 (by kernel_rfl) ?_
        refine W.no 2 100000 (by kernel_rfl) ?_
        refine W.no 2 100000 (by kernel_rfl) ?_
        refine W.no 2 100000 (by kernel_rfl) ?_
        cases h53; exact W.at 2 100000 [] [0, 1, 7, 8] (by kernel_rfl) K53
    ·
      cases h53; exact W.at 2 100000 [] [] (by kernel_rfl) K53

theorem version_epoch_con {s_58 : List UInt8} {r : Int × Bool} (h : version_epoch s_58 = some r) : Con Go.Proofs.Tryd.prog 46 [AV.str s_58] [] (version_epoch_res r) (version_epoch_out r) := by
  refine W.con (by kernel_rfl) ?_
  unfold version_epoch at h
  refine W.join (fun t => (Sum.elim (fun t_59 => r = ((0 : Int), Bool.false)) (fun t_60 => Walk Go.Proofs.Tryd.prog 46 (Cfg.mk Mode.run (seqTodo Go.Proofs.Tryd.prog 46 1) (St.mk [AV.str s_58, jj, jj, jj, jj, jj, jj, jj, jj, jj, jj, jj, jj, jj, jj, jj, jj, jj, jj, jj, jj, jj, jj, jj, jj, jj, jj, jj, jj, jj, jj, jj, jj, jj] [] (0 : Nat))) (version_epoch_res r) (version_epoch_out r))) t) h (fun t h => ?_) (fun t71 h71 K71 => ?_)
  ·
    rcases t with t_59 | t_60
    · replace h := W.inl (h)
      refine W.elimL (?_)
      exact (Option.some.inj h).symm
    · replace h := W.inr (h)
      refine W.elimR (?_)
      refine W.at 0 100000 [] [0, 4, 15, 16] (c' := (fun (s_75 : Int × Int) => (Cfg.mk Mode.run (headTodo Go.Proofs.Tryd.prog 46 0) (St.mk [AV.str s_58, jj, jj, jj, AV.int IntKind.i64 (Prod.fst s_75), jj, jj, jj, jj, jj, jj, jj, jj, jj, jj, AV.int IntKind.i64 (↑(List.length s_58) : Int), AV.int IntKind.i64 (Prod.snd s_75), jj, jj, jj, jj, jj, jj, jj, jj, jj, jj, jj, jj, jj, jj, jj, jj, jj] [] (0 : Nat)))) ((0 : Int), (0 : Int))) (by kernel_rfl) ?_
      refine W.loop (fun (s_75 : Int × Int) => (Cfg.mk Mode.run (headTodo Go.Proofs.Tryd.prog 46 0) (St.mk [AV.str s_58, jj, jj, jj, AV.int IntKind.i64 (Prod.fst s_75), jj, jj, jj, jj, jj, jj, jj, jj, jj, jj, AV.int IntKind.i64 (↑(List.length s_58) : Int), AV.int IntKind.i64 (Prod.snd s_75), jj, jj, jj, jj, jj, jj, jj, jj, jj, jj, jj, jj, jj, jj, jj, jj, jj] [] (0 : Nat)))) (fun t => (Sum.elim (fun t_66 => r = ((0 : Int), Bool.false)) (fun t_68 => Walk Go.Proofs.Tryd.prog 46 (Cfg.mk Mode.run ((headTodo Go.Proofs.Tryd.prog 46 0).drop 3) (St.mk [jj, jj, jj, jj, AV.int IntKind.i64 t_68, jj, jj, jj, jj, jj, jj, jj, jj, jj, jj, jj, jj, jj, jj, jj, jj, jj, jj, jj, jj, jj, jj, jj, jj, jj, jj, jj, jj, jj] [] (0 : Nat))) (version_epoch_res r) (version_epoch_out r))) t) h (fun t h => ?_) (fun s_75 x70 h70 K70 => ?_)
      ·
        rcases t with t_66 | t_68
        · replace h := W.inl (h)
          refine W.elimL (?_)
          exact (Option.some.inj h).symm
        · replace h := W.inr (h)
          refine W.elimR (?_)
          exact W.retT 0 100000 h (by kernel_rfl)
      · unfold version_epoch_b0 at h70
        refine W.cond 2 100000 h70 (by kernel_rfl) (fun h70 => ?_) (fun h70 => ?_)
        ·
          refine W.needT 2 100000 h70 (by kernel_rfl) (fun h70 => ?_)
          refine W.bind h70 fun a_65 ha_65 h70 => ?_
          refine W.call 2 100000 (by kernel_rfl) (version_digit_con ha_65) (by kernel_rfl) ?_
          refine W.cond 2 100000 h70 (by kernel_rfl) (fun h70 => ?_) (fun h70 => ?_)
          ·
            cases h70; exact W.retK 2 100000 K70 (by kernel_rfl)
          ·
            refine W.needT 2 100000 h70 (by kernel_rfl) (fun h70 => ?_)
            cases h70; exact W.at 2 100000 [] [0, 4, 15, 16] (by kernel_rfl) K70
        ·
          cases h70; exact W.at 2 100000 [] [4] (by kernel_rfl) K70
  · refine W.next 0 6 (by kernel_rfl) ?_
    refine W.cond 1 100000 h71 (by kernel_rfl) (fun h71 => ?_) (fun h71 => ?_)
    ·
      refine W.yes 1 100000 (by kernel_rfl) ?_
      refine W.yes 1 100000 (by kernel_rfl) ?_
      refine W.yes 1 100000 (by kernel_rfl) ?_
      refine W.yes 1 100000 (by kernel_rfl) ?_
      cases h71; exact W.retK 1 100000 K71 (by kernel_rfl)
    ·
      refine W.no 1 100000 (by kernel_rfl) ?_
      refine W.no 1 100000 (by kernel_rfl) ?_
      refine W.no 1 100000 (by kernel_rfl) ?_
      refine W.cond 1 100000 h71 (by kernel_rfl) (fun h71 => ?_) (fun h71 => ?_)
      ·
        cases h71; exact W.retK 1 100000 K71 (by kernel_rfl)
      ·
        cases h71; exact W.at 1 100000 [] [0] (by kernel_rfl) K71

theorem version_Parse_con {s_77 : List UInt8} {r : Int × List UInt8 × List UInt8 × Int} (h : version_Parse s_77 = some r) : Con Go.Proofs.Tryd.prog 30 [AV.str s_77] [] (version_Parse_res r) (version_Parse_out r) := by
  refine W.con (by kernel_rfl) ?_
  unfold version_Parse at h
  refine W.cond 0 100000 h (by kernel_rfl) (fun h => ?_) (fun h => ?_)
  ·
    exact W.retT 0 100000 h (by kernel_rfl)
  ·
    refine W.join (fun t => (Sum.elim (fun t_80 => r = ((0 : Int), [], [], (2 : Int))) (fun t_84 => Walk Go.Proofs.Tryd.prog 30 (Cfg.mk Mode.run (seqTodo Go.Proofs.Tryd.prog 30 6) (St.mk [jj, jj, AV.ptr (0 : Nat) (0 : Nat), jj, AV.ptr (1 : Nat) (0 : Nat), AV.str (Prod.fst t_84), AV.str (Prod.fst (Prod.snd t_84)), jj, jj, jj, jj, jj, jj, jj, jj, jj, jj, jj, jj, jj, jj, jj, jj, jj, jj, jj, jj, jj, jj, jj, jj, jj, jj, jj, jj, jj, jj, jj, jj, jj, jj, jj, jj, jj, jj, jj, jj, jj, jj, jj, jj, jj, jj, jj, jj, jj, jj, jj, jj, jj, jj, jj, jj, jj, jj, jj, jj, jj, jj, jj, jj, jj, jj, jj, jj, jj, jj, jj, jj, jj, jj, jj] [AO.box [AV.int IntKind.i64 (0 : Int), AV.str [], AV.str []], AO.box [AV.int IntKind.i64 (Prod.snd (Prod.snd t_84)), AV.str [], AV.str [(48 : UInt8)]]] (0 : Nat))) (version_Parse_res r) (version_Parse_out r))) t) h (fun t h => ?_) (fun t94 h94 K94 => ?_)
    ·
      rcases t with t_80 | t_84
      · replace h := W.inl (h)
        refine W.elimL (?_)
        exact (Option.some.inj h).symm
      · replace h := W.inr (h)
        refine W.elimR (?_)
        refine W.join (fun t_88 => Walk Go.Proofs.Tryd.prog 30 (Cfg.mk Mode.run (seqTodo Go.Proofs.Tryd.prog 30 14) (St.mk [jj, jj, AV.ptr (0 : Nat) (0 : Nat), jj, AV.ptr (1 : Nat) (0 : Nat), AV.str (Prod.fst t_84), jj, jj, jj, jj, jj, jj, jj, jj, jj, jj, jj, jj, jj, jj, jj, jj, jj, jj, jj, jj, jj, jj, jj, jj, jj, jj, jj, jj, jj, jj, jj, jj, jj, jj, jj, jj, jj, jj, jj, jj, jj, jj, jj, jj, jj, jj, jj, jj, jj, jj, jj, jj, jj, jj, jj, jj, jj, jj, jj, jj, jj, jj, jj, jj, jj, jj, jj, jj, jj, jj, jj, jj, jj, jj, jj, jj] [AO.box [AV.int IntKind.i64 (0 : Int), AV.str [], AV.str []], AO.box [AV.int IntKind.i64 (Prod.snd (Prod.snd t_84)), AV.str (Prod.fst t_88), AV.str (Prod.snd t_88)]] (0 : Nat))) (version_Parse_res r) (version_Parse_out r)) h (fun t_88 h => ?_) (fun t93 h93 K93 => ?_)
        ·
          refine W.cond 0 100000 h (by kernel_rfl) (fun h => ?_) (fun h => ?_)
          ·
            refine W.yes 0 100000 (by kernel_rfl) ?_
            refine W.yes 0 100000 (by kernel_rfl) ?_
            refine W.yes 0 100000 (by kernel_rfl) ?_
            refine W.yes 0 100000 (by kernel_rfl) ?_
            refine W.yes 0 100000 (by kernel_rfl) ?_
            refine W.yes 0 100000 (by kernel_rfl) ?_
            refine W.yes 0 100000 (by kernel_rfl) ?_
            refine W.yes 0 100000 (by kernel_rfl) ?_
            refine W.yes 0 100000 (by kernel_rfl) ?_
            refine W.yes 0 100000 (by kernel_rfl) ?_
            refine W.yes 0 100000 (by kernel_rfl) ?_
            refine W.yes 0 100000 (by kernel_rfl) ?_
            refine W.yes 0 100000 (by kernel_rfl) ?_
            refine W.yes 0 100000 (by kernel_rfl) ?_
            refine W.yes 0 100000 (by kernel_rfl) ?_
            refine W.yes 0 100000 (by kernel_rfl) ?_
            refine W.yes 0 100000 (by kernel_rfl) ?_
            refine W.yes 0 100000 (by kernel_rfl) ?_
            refine W.yes 0 100000 (by kernel_rfl) ?_
            refine W.yes 0 100000 (by kernel_rfl) ?_
            refine W.yes 0 100000 (by kernel_rfl) ?_
            exact W.retT 0 100000 h (by kernel_rfl)
          ·
            refine W.no 0 100000 (by kernel_rfl) ?_
            refine W.no 0 100000 (by kernel_rfl) ?_
            refine W.needT 0 100000 h (by kernel_rfl) (fun h => ?_)
            refine W.no 0 100000 (by kernel_rfl) ?_
            refine W.bind h fun a_89 ha_89 h => ?_
            refine W.call 0 100000 (by kernel_rfl) (version_digit_con ha_89) (by kernel_rfl) ?_
            refine W.no 0 100000 (by kernel_rfl) ?_
            refine W.no 0 100000 (by kernel_rfl) ?_
            refine W.cond 0 100000 h (by kernel_rfl) (fun h => ?_) (fun h => ?_)
            ·
              refine W.yes 0 100000 (by kernel_rfl) ?_
              refine W.yes 0 100000 (by kernel_rfl) ?_
              refine W.yes 0 100000 (by kernel_rfl) ?_
              refine W.yes 0 100000 (by kernel_rfl) ?_
              refine W.yes 0 100000 (by kernel_rfl) ?_
              refine W.yes 0 100000 (by kernel_rfl) ?_
              refine W.yes 0 100000 (by kernel_rfl) ?_
              refine W.yes 0 100000 (by kernel_rfl) ?_
              refine W.yes 0 100000 (by kernel_rfl) ?_
              refine W.yes 0 100000 (by kernel_rfl) ?_
              refine W.yes 0 100000 (by kernel_rfl) ?_
              refine W.yes 0 100000 (by kernel_rfl) ?_
              refine W.yes 0 100000 (by kernel_rfl) ?_
              refine W.yes 0 100000 (by kernel_rfl) ?_
              refine W.yes 0 100000 (by kernel_rfl) ?_
              exact W.retT 0 100000 h (by kernel_rfl)
            ·
              refine W.no 0 100000 (by kernel_rfl) ?_
              refine W.no 0 100000 (by kernel_rfl) ?_
              refine W.no 0 100000 (by kernel_rfl) ?_
              refine W.bind h fun a_90 ha_90 h => ?_
              refine W.call 0 100000 (by kernel_rfl) (version_only_con ha_90) (by kernel_rfl) ?_
              refine W.no 0 100000 (by kernel_rfl) ?_
              refine W.no 0 100000 (by kernel_rfl) ?_
              refine W.cond 0 100000 h (by kernel_rfl) (fun h => ?_) (fun h => ?_)
              ·
                refine W.yes 0 100000 (by kernel_rfl) ?_
                refine W.yes 0 100000 (by kernel_rfl) ?_
                refine W.yes 0 100000 (by kernel_rfl) ?_
                refine W.yes 0 100000 (by kernel_rfl) ?_
                refine W.yes 0 100000 (by kernel_rfl) ?_
                refine W.yes 0 100000 (by kernel_rfl) ?_
                refine W.yes 0 100000 (by kernel_rfl) ?_
                refine W.yes 0 100000 (by kernel_rfl) ?_
                refine W.yes 0 100000 (by kernel_rfl) ?_
                exact W.retT 0 100000 h (by kernel_rfl)
              ·
                refine W.no 0 100000 (by kernel_rfl) ?_
                refine W.no 0 100000 (by kernel_rfl) ?_
                refine W.no 0 100000 (by kernel_rfl) ?_
                refine W.cond 0 100000 h (by kernel_rfl) (fun h => ?_) (fun h => ?_)
                ·
                  refine W.yes 0 100000 (by kernel_rfl) ?_
                  refine W.yes 0 100000 (by kernel_rfl) ?_
                  refine W.yes 0 100000 (by kernel_rfl) ?_
                  refine W.yes 0 100000 (by kernel_rfl) ?_
                  refine W.yes 0 100000 (by kernel_rfl) ?_
                  exact W.retT 0 100000 h (by kernel_rfl)
                ·
                  refine W.no 0 100000 (by kernel_rfl) ?_
                  refine W.no 0 100000 (by kernel_rfl) ?_
                  refine W.bind h fun a_91 ha_91 h => ?_
                  refine W.call 0 100000 (by kernel_rfl) (version_only_con ha_91) (by kernel_rfl) ?_
                  refine W.no 0 100000 (by kernel_rfl) ?_
                  refine W.no 0 100000 (by kernel_rfl) ?_
                  refine W.cond 0 100000 h (by kernel_rfl) (fun h => ?_) (fun h => ?_)
                  ·
                    exact W.retT 0 100000 h (by kernel_rfl)
                  ·
                    exact W.retT 0 100000 h (by kernel_rfl)
        · refine W.next 0 7 (by kernel_rfl) ?_
          refine W.bind h93 fun a_85 ha_85 h93 => ?_
          refine W.call 1 100000 (by kernel_rfl) (strings_LastIndexByte_con ha_85) (by kernel_rfl) ?_
          refine W.cond 1 100000 h93 (by kernel_rfl) (fun h93 => ?_) (fun h93 => ?_)
          ·
            refine W.needT 1 100000 h93 (by kernel_rfl) (fun h93 => ?_)
            refine W.needT 1 100000 h93 (by kernel_rfl) (fun h93 => ?_)
            cases h93; exact W.at 1 100000 [] [2, 4, 5] (by kernel_rfl) K93
          ·
            cases h93; exact W.at 1 100000 [] [2, 4, 5] (by kernel_rfl) K93
    · refine W.next 0 14 (by kernel_rfl) ?_
      refine W.bind h94 fun a_78 ha_78 h94 => ?_
      refine W.call 1 100000 (by kernel_rfl) (strings_IndexByte_con ha_78) (by kernel_rfl) ?_
      refine W.cond 1 100000 h94 (by kernel_rfl) (fun h94 => ?_) (fun h94 => ?_)
      ·
        refine W.needT 1 100000 h94 (by kernel_rfl) (fun h94 => ?_)
        refine W.bind h94 fun a_79 ha_79 h94 => ?_
        refine W.call 1 100000 (by kernel_rfl) (version_epoch_con ha_79) (by kernel_rfl) ?_
        refine W.cond 1 100000 h94 (by kernel_rfl) (fun h94 => ?_) (fun h94 => ?_)
        ·
          cases h94; exact W.retK 1 100000 K94 (by kernel_rfl)
        ·
          refine W.needT 1 100000 h94 (by kernel_rfl) (fun h94 => ?_)
          cases h94; exact W.at 1 100000 [] [2, 4, 5, 6] (by kernel_rfl) K94
      ·
        cases h94; exact W.at 1 100000 [] [2, 4, 5, 6] (by kernel_rfl) K94

theorem path_Name_con {s_100 : List UInt8} {r : Bool} (h : path_Name s_100 = some r) : Con Go.Proofs.Tryd.prog 33 [AV.str s_100] [] (path_Name_res r) (path_Name_out r) := by
  refine W.con (by kernel_rfl) ?_
  unfold path_Name at h
  refine W.join (fun t => (Sum.elim (fun t_101 => r = (Bool.false)) (fun t_102 => Walk Go.Proofs.Tryd.prog 33 (Cfg.mk Mode.run (seqTodo Go.Proofs.Tryd.prog 33 1) (St.mk [AV.str s_100, jj, jj, jj, jj, jj, jj, jj, jj, jj, jj, jj, jj, jj, jj, jj, jj, jj, jj, jj, jj, jj, jj, jj, jj, jj, jj, jj, jj, jj, jj, jj, jj, jj, jj, jj, jj, jj, jj, jj, jj, jj, jj, jj, jj, jj, jj, jj, jj, jj, jj, jj, jj, jj, jj] [] (0 : Nat))) (path_Name_res r) (path_Name_out r))) t) h (fun t h => ?_) (fun t113 h113 K113 => ?_)
  ·
    rcases t with t_101 | t_102
    · replace h := W.inl (h)
      refine W.elimL (?_)
      exact (Option.some.inj h).symm
    · replace h := W.inr (h)
      refine W.elimR (?_)
      refine W.at 0 100000 [] [0, 15, 16] (c' := (fun (s_116 : Int) => (Cfg.mk Mode.run (headTodo Go.Proofs.Tryd.prog 33 0) (St.mk [AV.str s_100, jj, jj, jj, jj, jj, jj, jj, jj, jj, jj, jj, jj, jj, jj, AV.int IntKind.i64 (↑(List.length s_100) : Int), AV.int IntKind.i64 s_116, jj, jj, jj, jj, jj, jj, jj, jj, jj, jj, jj, jj, jj, jj, jj, jj, jj, jj, jj, jj, jj, jj, jj, jj, jj, jj, jj, jj, jj, jj, jj, jj, jj, jj, jj, jj, jj, jj] [] (0 : Nat)))) ((0 : Int))) (by kernel_rfl) ?_
      refine W.loop (fun (s_116 : Int) => (Cfg.mk Mode.run (headTodo Go.Proofs.Tryd.prog 33 0) (St.mk [AV.str s_100, jj, jj, jj, jj, jj, jj, jj, jj, jj, jj, jj, jj, jj, jj, AV.int IntKind.i64 (↑(List.length s_100) : Int), AV.int IntKind.i64 s_116, jj, jj, jj, jj, jj, jj, jj, jj, jj, jj, jj, jj, jj, jj, jj, jj, jj, jj, jj, jj, jj, jj, jj, jj, jj, jj, jj, jj, jj, jj, jj, jj, jj, jj, jj, jj, jj, jj] [] (0 : Nat)))) (fun t => (Sum.elim (fun t_109 => r = (Bool.false)) (fun t_110 => Walk Go.Proofs.Tryd.prog 33 (Cfg.mk Mode.run ((headTodo Go.Proofs.Tryd.prog 33 0).drop 3) (St.mk [jj, jj, jj, jj, jj, jj, jj, jj, jj, jj, jj, jj, jj, jj, jj, jj, jj, jj, jj, jj, jj, jj, jj, jj, jj, jj, jj, jj, jj, jj, jj, jj, jj, jj, jj, jj, jj, jj, jj, jj, jj, jj, jj, jj, jj, jj, jj, jj, jj, jj, jj, jj, jj, jj, jj] [] (0 : Nat))) (path_Name_res r) (path_Name_out r))) t) h (fun t h => ?_) (fun s_116 x112 h112 K112 => ?_)
      ·
        rcases t with t_109 | t_110
        · replace h := W.inl (h)
          refine W.elimL (?_)
          exact (Option.some.inj h).symm
        · replace h := W.inr (h)
          refine W.elimR (?_)
          exact W.retT 0 100000 h (by kernel_rfl)
      · unfold path_Name_b0 at h112
        refine W.cond 2 100000 h112 (by kernel_rfl) (fun h112 => ?_) (fun h112 => ?_)
        ·
          refine W.needT 2 100000 h112 (by kernel_rfl) (fun h112 => ?_)
          refine W.join (fun t_107 => Walk Go.Proofs.Tryd.prog 33 (Cfg.mk Mode.run (seqTodo Go.Proofs.Tryd.prog 33 11) (St.mk [AV.str s_100, jj, jj, AV.int IntKind.i64 s_116, AV.int IntKind.u8 (↑(UInt8.toNat (List.getD s_100 (Int.toNat s_116) (0 : UInt8))) : Int), AV.bool t_107, jj, jj, jj, jj, jj, jj, jj, jj, jj, AV.int IntKind.i64 (↑(List.length s_100) : Int), AV.int IntKind.i64 s_116, jj, jj, jj, jj, jj, jj, jj, jj, jj, jj, jj, jj, jj, jj, jj, jj, jj, jj, jj, jj, jj, jj, jj, jj, jj, jj, jj, jj, jj, jj, jj, jj, jj, jj, jj, jj, jj, jj] [] (0 : Nat))) (path_Name_res r) (path_Name_out r)) h112 (fun t_107 h112 => ?_) (fun t109 h109 K109 => ?_)
          ·
            refine W.cond 2 100000 h112 (by kernel_rfl) (fun h112 => ?_) (fun h112 => ?_)
            ·
              refine W.yes 2 100000 (by kernel_rfl) ?_
              refine W.yes 2 100000 (by kernel_rfl) ?_
              refine W.cond 2 100000 h112 (by kernel_rfl) (fun h112 => ?_) (fun h112 => ?_)
              ·
                refine W.yes 2 100000 (by kernel_rfl) ?_
                refine W.yes 2 100000 (by kernel_rfl) ?_
                refine W.yes 2 100000 (by kernel_rfl) ?_
                refine W.yes 2 100000 (by kernel_rfl) ?_
                refine W.yes 2 100000 (by kernel_rfl) ?_
                refine W.yes 2 100000 (by kernel_rfl) ?_
                refine W.yes 2 100000 (by kernel_rfl) ?_
                refine W.yes 2 100000 (by kernel_rfl) ?_
                refine W.yes 2 100000 (by kernel_rfl) ?_
                cases h112; exact W.retK 2 100000 K112 (by kernel_rfl)
              ·
                refine W.no 2 100000 (by kernel_rfl) ?_
                refine W.no 2 100000 (by kernel_rfl) ?_
                refine W.cond 2 100000 h112 (by kernel_rfl) (fun h112 => ?_) (fun h112 => ?_)
                ·
                  refine W.yes 2 100000 (by kernel_rfl) ?_
                  refine W.no 2 100000 (by kernel_rfl) ?_
                  refine W.yes 2 100000 (by kernel_rfl) ?_
                  refine W.no 2 100000 (by kernel_rfl) ?_
                  refine W.cond 2 100000 h112 (by kernel_rfl) (fun h112 => ?_) (fun h112 => ?_)
                  ·
                    refine W.yes 2 100000 (by kernel_rfl) ?_
                    refine W.no 2 100000 (by kernel_rfl) ?_
                    refine W.yes 2 100000 (by kernel_rfl) ?_
                    refine W.yes 2 100000 (by kernel_rfl) ?_
                    refine W.no 2 100000 (by kernel_rfl) ?_
                    refine W.yes 2 100000 (by kernel_rfl) ?_
                    refine W.cond 2 100000 h112 (by kernel_rfl) (fun h112 => ?_) (fun h112 => ?_)
                    ·
                      cases h112; exact W.retK 2 100000 K112 (by kernel_rfl)
                    ·
                      cases h112; exact W.at 2 100000 [] [0, 15, 16] (by kernel_rfl) K112
                  ·
                    refine W.no 2 100000 (by kernel_rfl) ?_
                    refine W.no 2 100000 (by kernel_rfl) ?_
                    refine W.no 2 100000 (by kernel_rfl) ?_
                    refine W.yes 2 100000 (by kernel_rfl) ?_
                    refine W.no 2 100000 (by kernel_rfl) ?_
                    refine W.yes 2 100000 (by kernel_rfl) ?_
                    refine W.no 2 100000 (by kernel_rfl) ?_
                    cases h112; exact W.at 2 100000 [] [0, 15, 16] (by kernel_rfl) K112
                ·
                  refine W.no 2 100000 (by kernel_rfl) ?_
                  refine W.no 2 100000 (by kernel_rfl) ?_
                  refine W.no 2 100000 (by kernel_rfl) ?_
                  refine W.no 2 100000 (by kernel_rfl) ?_
                  refine W.no 2 100000 (by kernel_rfl) ?_
                  refine W.no 2 100000 (by kernel_rfl) ?_
                  refine W.no 2 100000 (by kernel_rfl) ?_
                  refine W.no 2 100000 (by kernel_rfl) ?_
                  refine W.yes 2 100000 (by kernel_rfl) ?_
                  refine W.no 2 100000 (by kernel_rfl) ?_
                  refine W.yes 2 100000 (by kernel_rfl) ?_
                  refine W.no 2 100000 (by kernel_rfl) ?_
                  cases h112; exact W.at 2 100000 [] [0, 15, 16] (by kernel_rfl) K112
            ·
              refine W.no 2 100000 (by kernel_rfl) ?_
              refine W.no 2 100000 (by kernel_rfl) ?_
              refine W.no 2 100000 (by kernel_rfl) ?_
              refine W.no 2 100000 (by kernel_rfl) ?_
              refine W.no 2 100000 (by kernel_rfl) ?_
              cases h112; exact W.at 2 100000 [] [0, 15, 16] (by kernel_rfl) K112
          · refine W.next 2 3 (by kernel_rfl) ?_
            refine W.cond 6 100000 h109 (by kernel_rfl) (fun h109 => ?_) (fun h109 => ?_)
            ·
              refine W.yes 6 100000 (by kernel_rfl) ?_
              refine W.yes 6 100000 (by kernel_rfl) ?_
              refine W.cond 6 100000 h109 (by kernel_rfl) (fun h109 => ?_) (fun h109 => ?_)
              ·
                refine W.yes 6 100000 (by kernel_rfl) ?_
                refine W.yes 6 100000 (by kernel_rfl) ?_
                refine W.yes 6 100000 (by kernel_rfl) ?_
                refine W.yes 6 100000 (by kernel_rfl) ?_
                cases h109; exact W.at 6 100000 [] [0, 3, 4, 5, 15, 16] (by kernel_rfl) K109
              ·
                refine W.no 6 100000 (by kernel_rfl) ?_
                refine W.no 6 100000 (by kernel_rfl) ?_
                refine W.cond 6 100000 h109 (by kernel_rfl) (fun h109 => ?_) (fun h109 => ?_)
                ·
                  refine W.yes 6 100000 (by kernel_rfl) ?_
                  refine W.no 6 100000 (by kernel_rfl) ?_
                  refine W.yes 6 100000 (by kernel_rfl) ?_
                  refine W.no 6 100000 (by kernel_rfl) ?_
                  cases h109; exact W.at 6 100000 [] [0, 3, 4, 5, 15, 16] (by kernel_rfl) K109
                ·
                  refine W.no 6 100000 (by kernel_rfl) ?_
                  refine W.no 6 100000 (by kernel_rfl) ?_
                  refine W.no 6 100000 (by kernel_rfl) ?_
                  refine W.no 6 100000 (by kernel_rfl) ?_
                  cases h109; exact W.at 6 100000 [] [0, 3, 4, 5, 15, 16] (by kernel_rfl) K109
            ·
              refine W.no 6 100000 (by kernel_rfl) ?_
              refine W.no 6 100000 (by kernel_rfl) ?_
              refine W.no 6 100000 (by kernel_rfl) ?_
              refine W.no 6 100000 (by kernel_rfl) ?_
              refine W.no 6 100000 (by kernel_rfl) ?_
              refine W.cond 6 100000 h109 (by kernel_rfl) (fun h109 => ?_) (fun h109 => ?_)
              ·
                refine W.yes 6 100000 (by kernel_rfl) ?_
                refine W.no 6 100000 (by kernel_rfl) ?_
                refine W.yes 6 100000 (by kernel_rfl) ?_
                refine W.no 6 100000 (by kernel_rfl) ?_
                cases h109; exact W.at 6 100000 [] [0, 3, 4, 5, 15, 16] (by kernel_rfl) K109
              ·
                refine W.no 6 100000 (by kernel_rfl) ?_
                refine W.no 6 100000 (by kernel_rfl) ?_
                refine W.no 6 100000 (by kernel_rfl) ?_
                refine W.no 6 100000 (by kernel_rfl) ?_
                cases h109; exact W.at 6 100000 [] [0, 3, 4, 5, 15, 16] (by kernel_rfl) K109
        ·
          cases h112; exact W.at 2 100000 [] [] (by kernel_rfl) K112
  · refine W.next 0 5 (by kernel_rfl) ?_
    refine W.cond 1 100000 h113 (by kernel_rfl) (fun h113 => ?_) (fun h113 => ?_)
    ·
      refine W.yes 1 100000 (by kernel_rfl) ?_
      refine W.yes 1 100000 (by kernel_rfl) ?_
      refine W.yes 1 100000 (by kernel_rfl) ?_
      refine W.yes 1 100000 (by kernel_rfl) ?_
      cases h113; exact W.retK 1 100000 K113 (by kernel_rfl)
    ·
      refine W.no 1 100000 (by kernel_rfl) ?_
      refine W.no 1 100000 (by kernel_rfl) ?_
      refine W.no 1 100000 (by kernel_rfl) ?_
      refine W.cond 1 100000 h113 (by kernel_rfl) (fun h113 => ?_) (fun h113 => ?_)
      ·
        cases h113; exact W.retK 1 100000 K113 (by kernel_rfl)
      ·
        cases h113; exact W.at 1 100000 [] [0] (by kernel_rfl) K113

theorem cellarerref02_Name_con {s_118 : List UInt8} {r : Bool} (h : cellarerref02_Name s_118 = some r) : Con Go.Proofs.Tryd.prog 24 [AV.str s_118] [] (cellarerref02_Name_res r) (cellarerref02_Name_out r) := by
  refine W.con (by kernel_rfl) ?_
  unfold cellarerref02_Name at h
  refine W.at 0 100000 [] [0, 3] (c' := (fun (s_136 : Int) => (Cfg.mk Mode.run (headTodo Go.Proofs.Tryd.prog 24 0) (St.mk [AV.str s_118, jj, jj, AV.int IntKind.i64 s_136, jj, jj, jj, jj, jj, jj, jj, jj, jj, jj, jj, jj, jj, jj, jj, jj, jj, jj, jj, jj, jj, jj, jj, jj, jj, jj, jj, jj, jj, jj, jj, jj, jj, jj, jj, jj, jj, jj, jj, jj, jj, jj, jj, jj, jj, jj, jj, jj, jj, jj, jj, jj, jj, jj, jj, jj, jj, jj, jj, jj] [] (0 : Nat)))) ((0 : Int))) (by kernel_rfl) ?_
  refine W.loop (fun (s_136 : Int) => (Cfg.mk Mode.run (headTodo Go.Proofs.Tryd.prog 24 0) (St.mk [AV.str s_118, jj, jj, AV.int IntKind.i64 s_136, jj, jj, jj, jj, jj, jj, jj, jj, jj, jj, jj, jj, jj, jj, jj, jj, jj, jj, jj, jj, jj, jj, jj, jj, jj, jj, jj, jj, jj, jj, jj, jj, jj, jj, jj, jj, jj, jj, jj, jj, jj, jj, jj, jj, jj, jj, jj, jj, jj, jj, jj, jj, jj, jj, jj, jj, jj, jj, jj, jj] [] (0 : Nat)))) (fun t => (Sum.elim (fun t_130 => r = (Bool.false)) (fun t_131 => Walk Go.Proofs.Tryd.prog 24 (Cfg.mk Mode.run ((headTodo Go.Proofs.Tryd.prog 24 0).drop 3) (St.mk [AV.str s_118, jj, jj, jj, jj, jj, jj, jj, jj, jj, jj, jj, jj, jj, jj, jj, jj, jj, jj, jj, jj, jj, jj, jj, jj, jj, jj, jj, jj, jj, jj, jj, jj, jj, jj, jj, jj, jj, jj, jj, jj, jj, jj, jj, jj, jj, jj, jj, jj, jj, jj, jj, jj, jj, jj, jj, jj, jj, jj, jj, jj, jj, jj, jj] [] (0 : Nat))) (cellarerref02_Name_res r) (cellarerref02_Name_out r))) t) h (fun t h => ?_) (fun s_136 x133 h133 K133 => ?_)
  ·
    rcases t with t_130 | t_131
    · replace h := W.inl (h)
      refine W.elimL (?_)
      exact (Option.some.inj h).symm
    · replace h := W.inr (h)
      refine W.elimR (?_)
      refine W.cond 0 100000 h (by kernel_rfl) (fun h => ?_) (fun h => ?_)
      ·
        refine W.yes 0 100000 (by kernel_rfl) ?_
        refine W.yes 0 100000 (by kernel_rfl) ?_
        refine W.yes 0 100000 (by kernel_rfl) ?_
        exact W.retT 0 100000 h (by kernel_rfl)
      ·
        refine W.no 0 100000 (by kernel_rfl) ?_
        refine W.no 0 100000 (by kernel_rfl) ?_
        refine W.no 0 100000 (by kernel_rfl) ?_
        exact W.retT 0 100000 h (by kernel_rfl)
  · unfold cellarerref02_Name_b0 at h133
    refine W.cond 2 100000 h133 (by kernel_rfl) (fun h133 => ?_) (fun h133 => ?_)
    ·
      refine W.needT 2 100000 h133 (by kernel_rfl) (fun h133 => ?_)
      refine W.join (fun t_122 => Walk Go.Proofs.Tryd.prog 24 (Cfg.mk Mode.run (seqTodo Go.Proofs.Tryd.prog 24 7) (St.mk [AV.str s_118, jj, jj, AV.int IntKind.i64 s_136, AV.int IntKind.u8 (↑(UInt8.toNat (List.getD s_118 (Int.toNat s_136) (0 : UInt8))) : Int), AV.bool t_122, jj, jj, jj, jj, jj, jj, jj, jj, jj, jj, jj, jj, jj, jj, jj, jj, jj, jj, jj, jj, jj, jj, jj, jj, jj, jj, jj, jj, jj, jj, jj, jj, jj, jj, jj, jj, jj, jj, jj, jj, jj, jj, jj, jj, jj, jj, jj, jj, jj, jj, jj, jj, jj, jj, jj, jj, jj, jj] [] (0 : Nat))) (cellarerref02_Name_res r) (cellarerref02_Name_out r)) h133 (fun t_122 h133 => ?_) (fun t130 h130 K130 => ?_)
      ·
        refine W.join (fun t_124 => Walk Go.Proofs.Tryd.prog 24 (Cfg.mk Mode.run (seqTodo Go.Proofs.Tryd.prog 24 8) (St.mk [AV.str s_118, jj, jj, AV.int IntKind.i64 s_136, AV.int IntKind.u8 (↑(UInt8.toNat (List.getD s_118 (Int.toNat s_136) (0 : UInt8))) : Int), AV.bool t_122, AV.bool t_124, jj, jj, jj, jj, jj, jj, jj, jj, jj, jj, jj, jj, jj, jj, jj, jj, jj, jj, jj, jj, jj, jj, jj, jj, jj, jj, jj, jj, jj, jj, jj, jj, jj, jj, jj, jj, jj, jj, jj, jj, jj, jj, jj, jj, jj, jj, jj, jj, jj, jj, jj, jj, jj, jj, jj, jj, jj] [] (0 : Nat))) (cellarerref02_Name_res r) (cellarerref02_Name_out r)) h133 (fun t_124 h133 => ?_) (fun t129 h129 K129 => ?_)
        ·
          refine W.join (fun t_126 => Walk Go.Proofs.Tryd.prog 24 (Cfg.mk Mode.run (seqTodo Go.Proofs.Tryd.prog 24 9) (St.mk [AV.str s_118, jj, jj, AV.int IntKind.i64 s_136, jj, AV.bool t_122, AV.bool t_124, AV.bool t_126, jj, jj, jj, jj, jj, jj, jj, jj, jj, jj, jj, jj, jj, jj, jj, jj, jj, jj, jj, jj, jj, jj, jj, jj, jj, jj, jj, jj, jj, jj, jj, jj, jj, jj, jj, jj, jj, jj, jj, jj, jj, jj, jj, jj, jj, jj, jj, jj, jj, jj, jj, jj, jj, jj, jj, jj] [] (0 : Nat))) (cellarerref02_Name_res r) (cellarerref02_Name_out r)) h133 (fun t_126 h133 => ?_) (fun t128 h128 K128 => ?_)
          ·
            refine W.cond 2 100000 h133 (by kernel_rfl) (fun h133 => ?_) (fun h133 => ?_)
            ·
              refine W.yes 2 100000 (by kernel_rfl) ?_
              refine W.yes 2 100000 (by kernel_rfl) ?_
              refine W.cond 2 100000 h133 (by kernel_rfl) (fun h133 => ?_) (fun h133 => ?_)
              ·
                refine W.yes 2 100000 (by kernel_rfl) ?_
                refine W.yes 2 100000 (by kernel_rfl) ?_
                refine W.cond 2 100000 h133 (by kernel_rfl) (fun h133 => ?_) (fun h133 => ?_)
                ·
                  refine W.yes 2 100000 (by kernel_rfl) ?_
                  refine W.yes 2 100000 (by kernel_rfl) ?_
                  refine W.yes 2 100000 (by kernel_rfl) ?_
                  refine W.yes 2 100000 (by kernel_rfl) ?_
                  cases h133; exact W.retK 2 100000 K133 (by kernel_rfl)
                ·
                  refine W.no 2 100000 (by kernel_rfl) ?_
                  refine W.cond 2 100000 h133 (by kernel_rfl) (fun h133 => ?_) (fun h133 => ?_)
                  ·
                    refine W.yes 2 100000 (by kernel_rfl) ?_
                    refine W.no 2 100000 (by kernel_rfl) ?_
                    refine W.yes 2 100000 (by kernel_rfl) ?_
                    refine W.no 2 100000 (by kernel_rfl) ?_
                    refine W.cond 2 100000 h133 (by kernel_rfl) (fun h133 => ?_) (fun h133 => ?_)
                    ·
                      cases h133; exact W.retK 2 100000 K133 (by kernel_rfl)
                    ·
                      cases h133; exact W.at 2 100000 [] [0, 3] (by kernel_rfl) K133
                  ·
                    refine W.no 2 100000 (by kernel_rfl) ?_
                    refine W.no 2 100000 (by kernel_rfl) ?_
                    refine W.no 2 100000 (by kernel_rfl) ?_
                    refine W.no 2 100000 (by kernel_rfl) ?_
                    refine W.no 2 100000 (by kernel_rfl) ?_
                    cases h133; exact W.at 2 100000 [] [0, 3] (by kernel_rfl) K133
              ·
                refine W.no 2 100000 (by kernel_rfl) ?_
                refine W.no 2 100000 (by kernel_rfl) ?_
                refine W.no 2 100000 (by kernel_rfl) ?_
                refine W.no 2 100000 (by kernel_rfl) ?_
                refine W.cond 2 100000 h133 (by kernel_rfl) (fun h133 => ?_) (fun h133 => ?_)
                ·
                  refine W.yes 2 100000 (by kernel_rfl) ?_
                  refine W.no 2 100000 (by kernel_rfl) ?_
                  refine W.yes 2 100000 (by kernel_rfl) ?_
                  refine W.no 2 100000 (by kernel_rfl) ?_
                  refine W.cond 2 100000 h133 (by kernel_rfl) (fun h133 => ?_) (fun h133 => ?_)
                  ·
                    cases h133; exact W.retK 2 100000 K133 (by kernel_rfl)
                  ·
                    cases h133; exact W.at 2 100000 [] [0, 3] (by kernel_rfl) K133
                ·
                  refine W.no 2 100000 (by kernel_rfl) ?_
                  refine W.no 2 100000 (by kernel_rfl) ?_
                  refine W.no 2 100000 (by kernel_rfl) ?_
                  refine W.no 2 100000 (by kernel_rfl) ?_
                  refine W.no 2 100000 (by kernel_rfl) ?_
                  cases h133; exact W.at 2 100000 [] [0, 3] (by kernel_rfl) K133
            ·
              refine W.no 2 100000 (by kernel_rfl) ?_
              refine W.no 2 100000 (by kernel_rfl) ?_
              refine W.no 2 100000 (by kernel_rfl) ?_
              refine W.no 2 100000 (by kernel_rfl) ?_
              refine W.no 2 100000 (by kernel_rfl) ?_
              refine W.no 2 100000 (by kernel_rfl) ?_
              refine W.no 2 100000 (by kernel_rfl) ?_
              refine W.cond 2 100000 h133 (by kernel_rfl) (fun h133 => ?_) (fun h133 => ?_)
              ·
                refine W.yes 2 100000 (by kernel_rfl) ?_
                refine W.no 2 100000 (by kernel_rfl) ?_
                refine W.yes 2 100000 (by kernel_rfl) ?_
                refine W.no 2 100000 (by kernel_rfl) ?_
                refine W.cond 2 100000 h133 (by kernel_rfl) (fun h133 => ?_) (fun h133 => ?_)
                ·
                  cases h133; exact W.retK 2 100000 K133 (by kernel_rfl)
                ·
                  cases h133; exact W.at 2 100000 [] [0, 3] (by kernel_rfl) K133
              ·
                refine W.no 2 100000 (by kernel_rfl) ?_
                refine W.no 2 100000 (by kernel_rfl) ?_
                refine W.no 2 100000 (by kernel_rfl) ?_
                refine W.no 2 100000 (by kernel_rfl) ?_
                refine W.no 2 100000 (by kernel_rfl) ?_
                cases h133; exact W.at 2 100000 [] [0, 3] (by kernel_rfl) K133
          · refine W.next 2 1 (by kernel_rfl) ?_
            refine W.cond 6 100000 h128 (by kernel_rfl) (fun h128 => ?_) (fun h128 => ?_)
            ·
              refine W.yes 6 100000 (by kernel_rfl) ?_
              refine W.yes 6 100000 (by kernel_rfl) ?_
              refine W.yes 6 100000 (by kernel_rfl) ?_
              refine W.yes 6 100000 (by kernel_rfl) ?_
              refine W.yes 6 100000 (by kernel_rfl) ?_
              cases h128; exact W.at 6 100000 [] [0, 3, 5, 6, 7] (by kernel_rfl) K128
            ·
              refine W.no 6 100000 (by kernel_rfl) ?_
              refine W.no 6 100000 (by kernel_rfl) ?_
              refine W.cond 6 100000 h128 (by kernel_rfl) (fun h128 => ?_) (fun h128 => ?_)
              ·
                refine W.yes 6 100000 (by kernel_rfl) ?_
                refine W.yes 6 100000 (by kernel_rfl) ?_
                cases h128; exact W.at 6 100000 [] [0, 3, 5, 6, 7] (by kernel_rfl) K128
              ·
                refine W.no 6 100000 (by kernel_rfl) ?_
                refine W.no 6 100000 (by kernel_rfl) ?_
                cases h128; exact W.at 6 100000 [] [0, 3, 5, 6, 7] (by kernel_rfl) K128
        · refine W.next 2 1 (by kernel_rfl) ?_
          refine W.cond 6 100000 h129 (by kernel_rfl) (fun h129 => ?_) (fun h129 => ?_)
          ·
            refine W.yes 6 100000 (by kernel_rfl) ?_
            refine W.yes 6 100000 (by kernel_rfl) ?_
            cases h129; exact W.at 6 100000 [] [0, 3, 4, 5, 6] (by kernel_rfl) K129
          ·
            refine W.no 6 100000 (by kernel_rfl) ?_
            refine W.no 6 100000 (by kernel_rfl) ?_
            cases h129; exact W.at 6 100000 [] [0, 3, 4, 5, 6] (by kernel_rfl) K129
      · refine W.next 2 3 (by kernel_rfl) ?_
        refine W.cond 6 100000 h130 (by kernel_rfl) (fun h130 => ?_) (fun h130 => ?_)
        ·
          refine W.yes 6 100000 (by kernel_rfl) ?_
          refine W.yes 6 100000 (by kernel_rfl) ?_
          cases h130; exact W.at 6 100000 [] [0, 3, 4, 5] (by kernel_rfl) K130
        ·
          refine W.no 6 100000 (by kernel_rfl) ?_
          refine W.no 6 100000 (by kernel_rfl) ?_
          cases h130; exact W.at 6 100000 [] [0, 3, 4, 5] (by kernel_rfl) K130
    ·
      cases h133; exact W.at 2 100000 [] [0] (by kernel_rfl) K133

theorem stringslite_HasPrefix_con {s_139 : List UInt8} {prefix_140 : List UInt8} {r : Bool} (h : stringslite_HasPrefix s_139 prefix_140 = some r) : Con Go.Proofs.Tryd.prog 59 [AV.str s_139, AV.str prefix_140] [] (stringslite_HasPrefix_res r) (stringslite_HasPrefix_out r) := by
  refine W.con (by kernel_rfl) ?_
  unfold stringslite_HasPrefix at h
  refine W.cond 0 100000 h (by kernel_rfl) (fun h => ?_) (fun h => ?_)
  ·
    refine W.yes 0 100000 (by kernel_rfl) ?_
    refine W.yes 0 100000 (by kernel_rfl) ?_
    refine W.yes 0 100000 (by kernel_rfl) ?_
    refine W.needT 0 100000 h (by kernel_rfl) (fun h => ?_)
    refine W.yes 0 100000 (by kernel_rfl) ?_
    refine W.yes 0 100000 (by kernel_rfl) ?_
    refine W.yes 0 100000 (by kernel_rfl) ?_
    exact W.retT 0 100000 h (by kernel_rfl)
  ·
    refine W.no 0 100000 (by kernel_rfl) ?_
    refine W.no 0 100000 (by kernel_rfl) ?_
    refine W.no 0 100000 (by kernel_rfl) ?_
    refine W.no 0 100000 (by kernel_rfl) ?_
    refine W.no 0 100000 (by kernel_rfl) ?_
    refine W.no 0 100000 (by kernel_rfl) ?_
    exact W.retT 0 100000 h (by kernel_rfl)

theorem strings_HasPrefix_con {s_145 : List UInt8} {prefix_146 : List UInt8} {r : Bool} (h : strings_HasPrefix s_145 prefix_146 = some r) : Con Go.Proofs.Tryd.prog 41 [AV.str s_145, AV.str prefix_146] [] (strings_HasPrefix_res r) (strings_HasPrefix_out r) := by
  refine W.con (by kernel_rfl) ?_
  unfold strings_HasPrefix at h
  refine W.bind h fun a_147 ha_147 h => ?_
  refine W.call 0 100000 (by kernel_rfl) (stringslite_HasPrefix_con ha_147) (by kernel_rfl) ?_
  exact W.retT 0 100000 h (by kernel_rfl)

theorem stringslite_HasSuffix_con {s_152 : List UInt8} {suffix_153 : List UInt8} {r : Bool} (h : stringslite_HasSuffix s_152 suffix_153 = some r) : Con Go.Proofs.Tryd.prog 42 [AV.str s_152, AV.str suffix_153] [] (stringslite_HasSuffix_res r) (stringslite_HasSuffix_out r) := by
  refine W.con (by kernel_rfl) ?_
  unfold stringslite_HasSuffix at h
  refine W.cond 0 100000 h (by kernel_rfl) (fun h => ?_) (fun h => ?_)
  ·
    refine W.yes 0 100000 (by kernel_rfl) ?_
    refine W.yes 0 100000 (by kernel_rfl) ?_
    refine W.yes 0 100000 (by kernel_rfl) ?_
    refine W.yes 0 100000 (by kernel_rfl) ?_
    refine W.yes 0 100000 (by kernel_rfl) ?_
    refine W.yes 0 100000 (by kernel_rfl) ?_
    refine W.needT 0 100000 h (by kernel_rfl) (fun h => ?_)
    refine W.yes 0 100000 (by kernel_rfl) ?_
    refine W.yes 0 100000 (by kernel_rfl) ?_
    refine W.yes 0 100000 (by kernel_rfl) ?_
    exact W.retT 0 100000 h (by kernel_rfl)
  ·
    refine W.no 0 100000 (by kernel_rfl) ?_
    refine W.no 0 100000 (by kernel_rfl) ?_
    refine W.no 0 100000 (by kernel_rfl) ?_
    refine W.no 0 100000 (by kernel_rfl) ?_
    refine W.no 0 100000 (by kernel_rfl) ?_
    refine W.no 0 100000 (by kernel_rfl) ?_
    refine W.no 0 100000 (by kernel_rfl) ?_
    refine W.no 0 100000 (by kernel_rfl) ?_
    refine W.no 0 100000 (by kernel_rfl) ?_
    exact W.retT 0 100000 h (by kernel_rfl)

theorem strings_HasSuffix_con {s_158 : List UInt8} {suffix_159 : List UInt8} {r : Bool} (h : strings_HasSuffix s_158 suffix_159 = some r) : Con Go.Proofs.Tryd.prog 13 [AV.str s_158, AV.str suffix_159] [] (strings_HasSuffix_res r) (strings_HasSuffix_out r) := by
  refine W.con (by kernel_rfl) ?_
  unfold strings_HasSuffix at h
  refine W.bind h fun a_160 ha_160 h => ?_
  refine W.call 0 100000 (by kernel_rfl) (stringslite_HasSuffix_con ha_160) (by kernel_rfl) ?_
  exact W.retT 0 100000 h (by kernel_rfl)

theorem path_Join_con {dir_165 : List UInt8} {name_166 : List UInt8} {r : List UInt8} (h : path_Join dir_165 name_166 = some r) : Con Go.Proofs.Tryd.prog 40 [AV.str dir_165, AV.str name_166] [] (path_Join_res r) (path_Join_out r) := by
  refine W.con (by kernel_rfl) ?_
  unfold path_Join at h
  refine W.bind h fun a_167 ha_167 h => ?_
  refine W.call 0 100000 (by kernel_rfl) (strings_HasSuffix_con ha_167) (by kernel_rfl) ?_
  refine W.cond 0 100000 h (by kernel_rfl) (fun h => ?_) (fun h => ?_)
  ·
    refine W.needT 0 100000 h (by kernel_rfl) (fun h => ?_)
    exact W.retT 0 100000 h (by kernel_rfl)
  ·
    refine W.needT 0 100000 h (by kernel_rfl) (fun h => ?_)
    refine W.needT 0 100000 h (by kernel_rfl) (fun h => ?_)
    exact W.retT 0 100000 h (by kernel_rfl)

theorem path_Under_con {dir_172 : List UInt8} {s_173 : List UInt8} {r : Bool} (h : path_Under dir_172 s_173 = some r) : Con Go.Proofs.Tryd.prog 12 [AV.str dir_172, AV.str s_173] [] (path_Under_res r) (path_Under_out r) := by
  refine W.con (by kernel_rfl) ?_
  unfold path_Under at h
  refine W.bind h fun a_174 ha_174 h => ?_
  refine W.call 0 100000 (by kernel_rfl) (path_Join_con ha_174) (by kernel_rfl) ?_
  refine W.bind h fun a_175 ha_175 h => ?_
  refine W.call 0 100000 (by kernel_rfl) (strings_HasPrefix_con ha_175) (by kernel_rfl) ?_
  refine W.cond 0 100000 h (by kernel_rfl) (fun h => ?_) (fun h => ?_)
  ·
    refine W.yes 0 100000 (by kernel_rfl) ?_
    refine W.yes 0 100000 (by kernel_rfl) ?_
    refine W.yes 0 100000 (by kernel_rfl) ?_
    refine W.yes 0 100000 (by kernel_rfl) ?_
    refine W.yes 0 100000 (by kernel_rfl) ?_
    exact W.retT 0 100000 h (by kernel_rfl)
  ·
    refine W.no 0 100000 (by kernel_rfl) ?_
    refine W.no 0 100000 (by kernel_rfl) ?_
    refine W.no 0 100000 (by kernel_rfl) ?_
    refine W.no 0 100000 (by kernel_rfl) ?_
    refine W.no 0 100000 (by kernel_rfl) ?_
    exact W.retT 0 100000 h (by kernel_rfl)

theorem cellarerref02_Under_con {dir_180 : List UInt8} {s_181 : List UInt8} {r : Bool} (h : cellarerref02_Under dir_180 s_181 = some r) : Con Go.Proofs.Tryd.prog 14 [AV.str dir_180, AV.str s_181] [] (cellarerref02_Under_res r) (cellarerref02_Under_out r) := by
  refine W.con (by kernel_rfl) ?_
  unfold cellarerref02_Under at h
  refine W.needT 0 100000 h (by kernel_rfl) (fun h => ?_)
  refine W.join (fun t_183 => Walk Go.Proofs.Tryd.prog 14 (Cfg.mk Mode.run (seqTodo Go.Proofs.Tryd.prog 14 2) (St.mk [jj, AV.str s_181, jj, jj, jj, AV.str t_183, jj, jj, jj, jj, jj, jj, jj, jj, jj, jj, jj, jj, jj, jj, jj, jj, jj, jj, jj, jj, jj, jj, jj, jj, jj, jj, jj] [] (0 : Nat))) (cellarerref02_Under_res r) (cellarerref02_Under_out r)) h (fun t_183 h => ?_) (fun t185 h185 K185 => ?_)
  ·
    refine W.cond 0 100000 h (by kernel_rfl) (fun h => ?_) (fun h => ?_)
    ·
      refine W.yes 0 100000 (by kernel_rfl) ?_
      refine W.yes 0 100000 (by kernel_rfl) ?_
      refine W.yes 0 100000 (by kernel_rfl) ?_
      refine W.needT 0 100000 h (by kernel_rfl) (fun h => ?_)
      refine W.yes 0 100000 (by kernel_rfl) ?_
      refine W.yes 0 100000 (by kernel_rfl) ?_
      refine W.yes 0 100000 (by kernel_rfl) ?_
      exact W.retT 0 100000 h (by kernel_rfl)
    ·
      refine W.no 0 100000 (by kernel_rfl) ?_
      refine W.no 0 100000 (by kernel_rfl) ?_
      refine W.no 0 100000 (by kernel_rfl) ?_
      refine W.no 0 100000 (by kernel_rfl) ?_
      refine W.no 0 100000 (by kernel_rfl) ?_
      refine W.no 0 100000 (by kernel_rfl) ?_
      exact W.retT 0 100000 h (by kernel_rfl)
  · refine W.next 0 3 (by kernel_rfl) ?_
    refine W.cond 1 100000 h185 (by kernel_rfl) (fun h185 => ?_) (fun h185 => ?_)
    ·
      refine W.yes 1 100000 (by kernel_rfl) ?_
      refine W.yes 1 100000 (by kernel_rfl) ?_
      refine W.yes 1 100000 (by kernel_rfl) ?_
      refine W.yes 1 100000 (by kernel_rfl) ?_
      refine W.needT 1 100000 h185 (by kernel_rfl) (fun h185 => ?_)
      refine W.yes 1 100000 (by kernel_rfl) ?_
      refine W.yes 1 100000 (by kernel_rfl) ?_
      refine W.cond 1 100000 h185 (by kernel_rfl) (fun h185 => ?_) (fun h185 => ?_)
      ·
        cases h185; exact W.at 1 100000 [] [1, 5] (by kernel_rfl) K185
      ·
        cases h185; exact W.at 1 100000 [] [1, 5] (by kernel_rfl) K185
    ·
      refine W.no 1 100000 (by kernel_rfl) ?_
      refine W.no 1 100000 (by kernel_rfl) ?_
      refine W.no 1 100000 (by kernel_rfl) ?_
      refine W.no 1 100000 (by kernel_rfl) ?_
      refine W.no 1 100000 (by kernel_rfl) ?_
      refine W.no 1 100000 (by kernel_rfl) ?_
      refine W.no 1 100000 (by kernel_rfl) ?_
      cases h185; exact W.at 1 100000 [] [1, 5] (by kernel_rfl) K185

theorem cellarerref19_Ends_con {s_189 : List UInt8} {end_190 : List UInt8} {r : Bool} (h : cellarerref19_Ends s_189 end_190 = some r) : Con Go.Proofs.Tryd.prog 15 [AV.str s_189, AV.str end_190] [] (cellarerref19_Ends_res r) (cellarerref19_Ends_out r) := by
  refine W.con (by kernel_rfl) ?_
  unfold cellarerref19_Ends at h
  refine W.cond 0 100000 h (by kernel_rfl) (fun h => ?_) (fun h => ?_)
  ·
    refine W.yes 0 100000 (by kernel_rfl) ?_
    refine W.yes 0 100000 (by kernel_rfl) ?_
    refine W.yes 0 100000 (by kernel_rfl) ?_
    refine W.yes 0 100000 (by kernel_rfl) ?_
    refine W.yes 0 100000 (by kernel_rfl) ?_
    refine W.yes 0 100000 (by kernel_rfl) ?_
    refine W.needT 0 100000 h (by kernel_rfl) (fun h => ?_)
    refine W.yes 0 100000 (by kernel_rfl) ?_
    refine W.yes 0 100000 (by kernel_rfl) ?_
    refine W.yes 0 100000 (by kernel_rfl) ?_
    exact W.retT 0 100000 h (by kernel_rfl)
  ·
    refine W.no 0 100000 (by kernel_rfl) ?_
    refine W.no 0 100000 (by kernel_rfl) ?_
    refine W.no 0 100000 (by kernel_rfl) ?_
    refine W.no 0 100000 (by kernel_rfl) ?_
    refine W.no 0 100000 (by kernel_rfl) ?_
    refine W.no 0 100000 (by kernel_rfl) ?_
    refine W.no 0 100000 (by kernel_rfl) ?_
    refine W.no 0 100000 (by kernel_rfl) ?_
    refine W.no 0 100000 (by kernel_rfl) ?_
    exact W.retT 0 100000 h (by kernel_rfl)

theorem path_plain_con {s_196 : List UInt8} {r : Bool} (h : path_plain s_196 = some r) : Con Go.Proofs.Tryd.prog 69 [AV.str s_196] [] (path_plain_res r) (path_plain_out r) := by
  refine W.con (by kernel_rfl) ?_
  unfold path_plain at h
  refine W.at 0 100000 [] [0, 5, 6] (c' := (fun (s_207 : Int) => (Cfg.mk Mode.run (headTodo Go.Proofs.Tryd.prog 69 0) (St.mk [AV.str s_196, jj, jj, jj, jj, AV.int IntKind.i64 (↑(List.length s_196) : Int), AV.int IntKind.i64 s_207, jj, jj, jj, jj, jj, jj, jj, jj, jj, jj, jj, jj, jj, jj, jj] [] (0 : Nat)))) ((0 : Int))) (by kernel_rfl) ?_
  refine W.loop (fun (s_207 : Int) => (Cfg.mk Mode.run (headTodo Go.Proofs.Tryd.prog 69 0) (St.mk [AV.str s_196, jj, jj, jj, jj, AV.int IntKind.i64 (↑(List.length s_196) : Int), AV.int IntKind.i64 s_207, jj, jj, jj, jj, jj, jj, jj, jj, jj, jj, jj, jj, jj, jj, jj] [] (0 : Nat)))) (fun t => (Sum.elim (fun t_200 => r = (Bool.false)) (fun t_201 => Walk Go.Proofs.Tryd.prog 69 (Cfg.mk Mode.run ((headTodo Go.Proofs.Tryd.prog 69 0).drop 3) (St.mk [AV.str s_196, jj, jj, jj, jj, jj, jj, jj, jj, jj, jj, jj, jj, jj, jj, jj, jj, jj, jj, jj, jj, jj] [] (0 : Nat))) (path_plain_res r) (path_plain_out r))) t) h (fun t h => ?_) (fun s_207 x204 h204 K204 => ?_)
  ·
    rcases t with t_200 | t_201
    · replace h := W.inl (h)
      refine W.elimL (?_)
      exact (Option.some.inj h).symm
    · replace h := W.inr (h)
      refine W.elimR (?_)
      refine W.bind h fun a_202 ha_202 h => ?_
      refine W.call 0 100000 (by kernel_rfl) (strings_HasPrefix_con ha_202) (by kernel_rfl) ?_
      exact W.retT 0 100000 h (by kernel_rfl)
  · unfold path_plain_b0 at h204
    refine W.cond 2 100000 h204 (by kernel_rfl) (fun h204 => ?_) (fun h204 => ?_)
    ·
      refine W.needT 2 100000 h204 (by kernel_rfl) (fun h204 => ?_)
      refine W.cond 2 100000 h204 (by kernel_rfl) (fun h204 => ?_) (fun h204 => ?_)
      ·
        refine W.yes 2 100000 (by kernel_rfl) ?_
        refine W.yes 2 100000 (by kernel_rfl) ?_
        refine W.yes 2 100000 (by kernel_rfl) ?_
        refine W.yes 2 100000 (by kernel_rfl) ?_
        refine W.yes 2 100000 (by kernel_rfl) ?_
        cases h204; exact W.retK 2 100000 K204 (by kernel_rfl)
      ·
        refine W.no 2 100000 (by kernel_rfl) ?_
        refine W.no 2 100000 (by kernel_rfl) ?_
        refine W.needT 2 100000 h204 (by kernel_rfl) (fun h204 => ?_)
        refine W.no 2 100000 (by kernel_rfl) ?_
        refine W.no 2 100000 (by kernel_rfl) ?_
        refine W.cond 2 100000 h204 (by kernel_rfl) (fun h204 => ?_) (fun h204 => ?_)
        ·
          cases h204; exact W.retK 2 100000 K204 (by kernel_rfl)
        ·
          cases h204; exact W.at 2 100000 [] [0, 5, 6] (by kernel_rfl) K204
    ·
      cases h204; exact W.at 2 100000 [] [0] (by kernel_rfl) K204

theorem stringslite_Index_con {s_238 : List UInt8} {substr_239 : List UInt8} {r : Int} (h : stringslite_Index s_238 substr_239 = some r) : Con Go.Proofs.Tryd.prog 91 [AV.str s_238, AV.str substr_239] [] (stringslite_Index_res r) (stringslite_Index_out r) := by
  refine W.con (by kernel_rfl) ?_
  unfold stringslite_Index at h
  refine W.join (fun t_242 => r = (t_242)) h (fun t_242 h => ?_) (fun t244 h244 K244 => ?_)
  ·
    exact (Option.some.inj h).symm
  · refine W.next 0 11 (by kernel_rfl) ?_
    refine W.cond 1 100000 h244 (by kernel_rfl) (fun h244 => ?_) (fun h244 => ?_)
    ·
      refine W.yes 1 100000 (by kernel_rfl) ?_
      refine W.yes 1 100000 (by kernel_rfl) ?_
      refine W.yes 1 100000 (by kernel_rfl) ?_
      refine W.yes 1 100000 (by kernel_rfl) ?_
      cases h244; exact W.retK 1 100000 K244 (by kernel_rfl)
    ·
      refine W.no 1 100000 (by kernel_rfl) ?_
      refine W.no 1 100000 (by kernel_rfl) ?_
      refine W.no 1 100000 (by kernel_rfl) ?_
      refine W.cond 1 100000 h244 (by kernel_rfl) (fun h244 => ?_) (fun h244 => ?_)
      ·
        cases h244; exact W.retK 1 100000 K244 (by kernel_rfl)
      ·
        refine W.cond 1 100000 h244 (by kernel_rfl) (fun h244 => ?_) (fun h244 => ?_)
        ·
          refine W.needT 1 100000 h244 (by kernel_rfl) (fun h244 => ?_)
          refine W.bind h244 fun a_240 ha_240 h244 => ?_
          refine W.call 1 100000 (by kernel_rfl) (stringslite_IndexByte_con ha_240) (by kernel_rfl) ?_
          cases h244; exact W.retK 1 100000 K244 (by kernel_rfl)
        ·
          refine W.cond 1 100000 h244 (by kernel_rfl) (fun h244 => ?_) (fun h244 => ?_)
          ·
            cases h244; exact W.retK 1 100000 K244 (by kernel_rfl)
          ·
            exact nomatch h244

theorem strings_Index_con {s_233 : List UInt8} {substr_234 : List UInt8} {r : Int} (h : strings_Index s_233 substr_234 = some r) : Con Go.Proofs.Tryd.prog 87 [AV.str s_233, AV.str substr_234] [] (strings_Index_res r) (strings_Index_out r) := by
  refine W.con (by kernel_rfl) ?_
  unfold strings_Index at h
  refine W.bind h fun a_246 ha_246 h => ?_
  refine W.call 0 100000 (by kernel_rfl) (stringslite_Index_con ha_246) (by kernel_rfl) ?_
  exact W.retT 0 100000 h (by kernel_rfl)

theorem strings_Count_con {s_228 : List UInt8} {substr_229 : List UInt8} {r : Int} (h : strings_Count s_228 substr_229 = some r) : Con Go.Proofs.Tryd.prog 86 [AV.str s_228, AV.str substr_229] [] (strings_Count_res r) (strings_Count_out r) := by
  refine W.con (by kernel_rfl) ?_
  unfold strings_Count at h
  refine W.cond 0 100000 h (by kernel_rfl) (fun h => ?_) (fun h => ?_)
  ·
    exact nomatch h
  ·
    refine W.cond 0 100000 h (by kernel_rfl) (fun h => ?_) (fun h => ?_)
    ·
      refine W.needT 0 100000 h (by kernel_rfl) (fun h => ?_)
      exact W.retT 0 100000 h (by kernel_rfl)
    ·
      refine W.at 0 100000 [] [0, 1, 5] (c' := (fun (s_256 : List UInt8 × Int) => (Cfg.mk Mode.run (headTodo Go.Proofs.Tryd.prog 86 0) (St.mk [AV.str (Prod.fst s_256), AV.str substr_229, jj, jj, jj, AV.int IntKind.i64 (Prod.snd s_256), jj, jj, jj, jj, jj, jj, jj, jj, jj, jj, jj, jj, jj, jj, jj, jj, jj, jj, jj, jj, jj, jj, jj, jj, jj, jj, jj, jj] [] (0 : Nat)))) (s_228, (0 : Int))) (by kernel_rfl) ?_
      refine W.loop (fun (s_256 : List UInt8 × Int) => (Cfg.mk Mode.run (headTodo Go.Proofs.Tryd.prog 86 0) (St.mk [AV.str (Prod.fst s_256), AV.str substr_229, jj, jj, jj, AV.int IntKind.i64 (Prod.snd s_256), jj, jj, jj, jj, jj, jj, jj, jj, jj, jj, jj, jj, jj, jj, jj, jj, jj, jj, jj, jj, jj, jj, jj, jj, jj, jj, jj, jj] [] (0 : Nat)))) (fun t_251 => r = (t_251)) h (fun t_251 h => ?_) (fun s_256 x253 h253 K253 => ?_)
      ·
        exact (Option.some.inj h).symm
      · unfold strings_Count_b0 at h253
        refine W.bind h253 fun a_249 ha_249 h253 => ?_
        refine W.call 1 100000 (by kernel_rfl) (strings_Index_con ha_249) (by kernel_rfl) ?_
        refine W.cond 1 100000 h253 (by kernel_rfl) (fun h253 => ?_) (fun h253 => ?_)
        ·
          cases h253; exact W.retK 1 100000 K253 (by kernel_rfl)
        ·
          refine W.needT 1 100000 h253 (by kernel_rfl) (fun h253 => ?_)
          cases h253; exact W.at 1 100000 [] [0, 1, 5] (by kernel_rfl) K253

theorem strings_genSplit_con {s_222 : List UInt8} {sep_223 : List UInt8} {sepSave_224 : Int} {n_225 : Int} {r : List (List UInt8)} (h : strings_genSplit s_222 sep_223 sepSave_224 n_225 = some r) : Con Go.Proofs.Tryd.prog 82 [AV.str s_222, AV.str sep_223, AV.int IntKind.i64 sepSave_224, AV.int IntKind.i64 n_225] [] (strings_genSplit_res r) (strings_genSplit_out r) := by
  refine W.con (by kernel_rfl) ?_
  unfold strings_genSplit at h
  refine W.cond 0 100000 h (by kernel_rfl) (fun h => ?_) (fun h => ?_)
  ·
    exact W.retT 0 100000 h (by kernel_rfl)
  ·
    refine W.cond 0 100000 h (by kernel_rfl) (fun h => ?_) (fun h => ?_)
    ·
      exact nomatch h
    ·
      refine W.join (fun t_259 => Walk Go.Proofs.Tryd.prog 82 (Cfg.mk Mode.run (seqTodo Go.Proofs.Tryd.prog 82 7) (St.mk [AV.str s_222, AV.str sep_223, AV.int IntKind.i64 sepSave_224, AV.int IntKind.i64 t_259, jj, jj, jj, jj, jj, jj, jj, jj, jj, jj, jj, jj, jj, jj, jj, jj, jj, jj, jj, jj, jj, jj, jj, jj, jj, jj, jj, jj, jj, jj, jj, jj, jj, jj, jj, jj, jj, jj, jj, jj, jj, jj, jj, jj, jj, jj, jj, jj, jj, jj, jj, jj, jj, jj, jj, jj, jj, jj, jj, jj, jj, jj] [] (0 : Nat))) (strings_genSplit_res r) (strings_genSplit_out r)) h (fun t_259 h => ?_) (fun t273 h273 K273 => ?_)
      ·
        refine W.needT 0 100000 h (by kernel_rfl) (fun h => ?_)
        refine W.at 0 100000 [] [0, 1, 2, 3, 9, 10] (c' := (fun (s_276 : List UInt8 × Int × List (List UInt8)) => (Cfg.mk Mode.run (headTodo Go.Proofs.Tryd.prog 82 0) (St.mk [AV.str (Prod.fst s_276), AV.str sep_223, AV.int IntKind.i64 sepSave_224, AV.int IntKind.i64 (IntKind.wrap IntKind.i64 ((if IntKind.wrap IntKind.i64 ((↑(List.length s_222) : Int) + (1 : Int)) < t_259 then IntKind.wrap IntKind.i64 ((↑(List.length s_222) : Int) + (1 : Int)) else t_259) - (1 : Int))), jj, jj, jj, jj, jj, AV.view (0 : Nat) (0 : Nat) Option.none, AV.int IntKind.i64 (Prod.fst (Prod.snd s_276)), jj, jj, jj, jj, jj, jj, jj, jj, jj, jj, jj, jj, jj, jj, jj, jj, jj, jj, jj, jj, jj, jj, jj, jj, jj, jj, jj, jj, jj, jj, jj, jj, jj, jj, jj, jj, jj, jj, jj, jj, jj, jj, jj, jj, jj, jj, jj, jj, jj, jj, jj, jj, jj, jj, jj] [AO.row Ty.str (Prod.snd (Prod.snd s_276))] (0 : Nat)))) (s_222, (0 : Int), List.replicate (Int.toNat (if IntKind.wrap IntKind.i64 ((↑(List.length s_222) : Int) + (1 : Int)) < t_259 then IntKind.wrap IntKind.i64 ((↑(List.length s_222) : Int) + (1 : Int)) else t_259)) [])) (by kernel_rfl) ?_
        refine W.loop (fun (s_276 : List UInt8 × Int × List (List UInt8)) => (Cfg.mk Mode.run (headTodo Go.Proofs.Tryd.prog 82 0) (St.mk [AV.str (Prod.fst s_276), AV.str sep_223, AV.int IntKind.i64 sepSave_224, AV.int IntKind.i64 (IntKind.wrap IntKind.i64 ((if IntKind.wrap IntKind.i64 ((↑(List.length s_222) : Int) + (1 : Int)) < t_259 then IntKind.wrap IntKind.i64 ((↑(List.length s_222) : Int) + (1 : Int)) else t_259) - (1 : Int))), jj, jj, jj, jj, jj, AV.view (0 : Nat) (0 : Nat) Option.none, AV.int IntKind.i64 (Prod.fst (Prod.snd s_276)), jj, jj, jj, jj, jj, jj, jj, jj, jj, jj, jj, jj, jj, jj, jj, jj, jj, jj, jj, jj, jj, jj, jj, jj, jj, jj, jj, jj, jj, jj, jj, jj, jj, jj, jj, jj, jj, jj, jj, jj, jj, jj, jj, jj, jj, jj, jj, jj, jj, jj, jj, jj, jj, jj, jj] [AO.row Ty.str (Prod.snd (Prod.snd s_276))] (0 : Nat)))) (fun t_270 => Walk Go.Proofs.Tryd.prog 82 (Cfg.mk Mode.run ((headTodo Go.Proofs.Tryd.prog 82 0).drop 3) (St.mk [AV.str (Prod.fst t_270), jj, jj, jj, jj, jj, jj, jj, jj, AV.view (0 : Nat) (0 : Nat) Option.none, AV.int IntKind.i64 (Prod.fst (Prod.snd t_270)), jj, jj, jj, jj, jj, jj, jj, jj, jj, jj, jj, jj, jj, jj, jj, jj, jj, jj, jj, jj, jj, jj, jj, jj, jj, jj, jj, jj, jj, jj, jj, jj, jj, jj, jj, jj, jj, jj, jj, jj, jj, jj, jj, jj, jj, jj, jj, jj, jj, jj, jj, jj, jj, jj, jj] [AO.row Ty.str (Prod.snd (Prod.snd t_270))] (0 : Nat))) (strings_genSplit_res r) (strings_genSplit_out r)) h (fun t_270 h => ?_) (fun s_276 x272 h272 K272 => ?_)
        ·
          refine W.needT 0 100000 h (by kernel_rfl) (fun h => ?_)
          refine W.needT 0 100000 h (by kernel_rfl) (fun h => ?_)
          refine W.needT 0 100000 h (by kernel_rfl) (fun h => ?_)
          exact W.retT 0 100000 h (by kernel_rfl)
        · unfold strings_genSplit_b0 at h272
          refine W.cond 2 100000 h272 (by kernel_rfl) (fun h272 => ?_) (fun h272 => ?_)
          ·
            refine W.bind h272 fun a_266 ha_266 h272 => ?_
            refine W.call 2 100000 (by kernel_rfl) (strings_Index_con ha_266) (by kernel_rfl) ?_
            refine W.cond 2 100000 h272 (by kernel_rfl) (fun h272 => ?_) (fun h272 => ?_)
            ·
              cases h272; exact W.at 2 100000 [] [0, 9, 10] (by kernel_rfl) K272
            ·
              refine W.needT 2 100000 h272 (by kernel_rfl) (fun h272 => ?_)
              refine W.needT 2 100000 h272 (by kernel_rfl) (fun h272 => ?_)
              refine W.needT 2 100000 h272 (by kernel_rfl) (fun h272 => ?_)
              refine W.needT 2 100000 h272 (by kernel_rfl) (fun h272 => ?_)
              cases h272; exact W.at 2 100000 [] [0, 1, 2, 3, 9, 10] (by kernel_rfl) K272
          ·
            cases h272; exact W.at 2 100000 [] [0, 9, 10] (by kernel_rfl) K272
      · refine W.next 0 2 (by kernel_rfl) ?_
        refine W.cond 1 100000 h273 (by kernel_rfl) (fun h273 => ?_) (fun h273 => ?_)
        ·
          refine W.bind h273 fun a_257 ha_257 h273 => ?_
          refine W.call 1 100000 (by kernel_rfl) (strings_Count_con ha_257) (by kernel_rfl) ?_
          cases h273; exact W.at 1 100000 [] [0, 1, 2, 3] (by kernel_rfl) K273
        ·
          cases h273; exact W.at 1 100000 [] [0, 1, 2, 3] (by kernel_rfl) K273

theorem strings_Split_con {s_210 : List UInt8} {sep_211 : List UInt8} {r : List (List UInt8)} (h : strings_Split s_210 sep_211 = some r) : Con Go.Proofs.Tryd.prog 78 [AV.str s_210, AV.str sep_211] [] (strings_Split_res r) (strings_Split_out r) := by
  refine W.con (by kernel_rfl) ?_
  unfold strings_Split at h
  refine W.bind h fun a_277 ha_277 h => ?_
  refine W.call 0 100000 (by kernel_rfl) (strings_genSplit_con ha_277) (by kernel_rfl) ?_
  exact W.retT 0 100000 h (by kernel_rfl)

theorem path_Parts_1_con {p_285 : List UInt8} {r : Bool} (h : path_Parts_1 p_285 = some r) : Con Go.Proofs.Tryd.prog 79 [AV.str p_285] [] (path_Parts_1_res r) (path_Parts_1_out r) := by
  refine W.con (by kernel_rfl) ?_
  unfold path_Parts_1 at h
  exact W.retT 0 100000 h (by kernel_rfl)

theorem path_keep_string__con {l_281 : List (List UInt8)} {r : List (List UInt8)} (h : path_keep_string_ l_281 = some r) : Con Go.Proofs.Tryd.prog 77 [AV.list Ty.str l_281 Bool.false, AV.func (Go.Fn.func (79 : Nat)) [] []] [] (path_keep_string__res r) (path_keep_string__out r) := by
  refine W.con (by kernel_rfl) ?_
  unfold path_keep_string_ at h
  refine W.at 0 100000 [Co.own 5 (Ty.str)] [1, 5, 8, 9, 10] (c' := (fun (s_300 : Int × List (List UInt8)) => (Cfg.mk Mode.run (headTodo Go.Proofs.Tryd.prog 77 0) (St.mk [jj, AV.func (Go.Fn.func (79 : Nat)) [] [], jj, jj, jj, AV.view (0 : Nat) (0 : Nat) Option.none, jj, jj, AV.list Ty.str l_281 Bool.false, AV.int IntKind.i64 (↑(List.length l_281) : Int), AV.int IntKind.i64 (Prod.fst s_300), jj, jj, jj, jj, jj, jj, jj, jj, jj, jj, jj, jj] [AO.row Ty.str (Prod.snd s_300)] (0 : Nat)))) ((0 : Int), [])) (by kernel_rfl) ?_
  refine W.loop (fun (s_300 : Int × List (List UInt8)) => (Cfg.mk Mode.run (headTodo Go.Proofs.Tryd.prog 77 0) (St.mk [jj, AV.func (Go.Fn.func (79 : Nat)) [] [], jj, jj, jj, AV.view (0 : Nat) (0 : Nat) Option.none, jj, jj, AV.list Ty.str l_281 Bool.false, AV.int IntKind.i64 (↑(List.length l_281) : Int), AV.int IntKind.i64 (Prod.fst s_300), jj, jj, jj, jj, jj, jj, jj, jj, jj, jj, jj, jj] [AO.row Ty.str (Prod.snd s_300)] (0 : Nat)))) (fun t_295 => Walk Go.Proofs.Tryd.prog 77 (Cfg.mk Mode.run ((headTodo Go.Proofs.Tryd.prog 77 0).drop 3) (St.mk [jj, jj, jj, jj, jj, AV.view (0 : Nat) (0 : Nat) Option.none, jj, jj, jj, jj, jj, jj, jj, jj, jj, jj, jj, jj, jj, jj, jj, jj, jj] [AO.row Ty.str t_295] (0 : Nat))) (path_keep_string__res r) (path_keep_string__out r)) h (fun t_295 h => ?_) (fun s_300 x297 h297 K297 => ?_)
  ·
    exact W.retT 0 100000 h (by kernel_rfl)
  · unfold path_keep_string__b0 at h297
    refine W.cond 2 100000 h297 (by kernel_rfl) (fun h297 => ?_) (fun h297 => ?_)
    ·
      refine W.needT 2 100000 h297 (by kernel_rfl) (fun h297 => ?_)
      refine W.bind h297 fun a_293 ha_293 h297 => ?_
      refine W.call 2 100000 (by kernel_rfl) (path_Parts_1_con ha_293) (by kernel_rfl) ?_
      refine W.cond 2 100000 h297 (by kernel_rfl) (fun h297 => ?_) (fun h297 => ?_)
      ·
        refine W.needT 2 100000 h297 (by kernel_rfl) (fun h297 => ?_)
        cases h297; exact W.at 2 100000 [Co.own 5 (Ty.str)] [1, 5, 8, 9, 10] (by kernel_rfl) K297
      ·
        cases h297; exact W.at 2 100000 [Co.own 5 (Ty.str)] [1, 5, 8, 9, 10] (by kernel_rfl) K297
    ·
      cases h297; exact W.at 2 100000 [] [5] (by kernel_rfl) K297

theorem path_Parts_con {s_209 : List UInt8} {r : List (List UInt8)} (h : path_Parts s_209 = some r) : Con Go.Proofs.Tryd.prog 70 [AV.str s_209] [] (path_Parts_res r) (path_Parts_out r) := by
  refine W.con (by kernel_rfl) ?_
  unfold path_Parts at h
  refine W.bind h fun a_280 ha_280 h => ?_
  refine W.call 0 100000 (by kernel_rfl) (strings_Split_con ha_280) (by kernel_rfl) ?_
  refine W.bind h fun a_301 ha_301 h => ?_
  refine W.call 0 100000 (by kernel_rfl) (path_keep_string__con ha_301) (by kernel_rfl) ?_
  exact W.retT 0 100000 h (by kernel_rfl)

theorem path_Clean_con {s_195 : List UInt8} {r : List UInt8 × Int} (h : path_Clean s_195 = some r) : Con Go.Proofs.Tryd.prog 60 [AV.str s_195] [] (path_Clean_res r) (path_Clean_out r) := by
  refine W.con (by kernel_rfl) ?_
  unfold path_Clean at h
  refine W.bind h fun a_208 ha_208 h => ?_
  refine W.call 0 100000 (by kernel_rfl) (path_plain_con ha_208) (by kernel_rfl) ?_
  refine W.cond 0 100000 h (by kernel_rfl) (fun h => ?_) (fun h => ?_)
  ·
    exact W.retT 0 100000 h (by kernel_rfl)
  ·
    refine W.bind h fun a_304 ha_304 h => ?_
    refine W.call 0 100000 (by kernel_rfl) (path_Parts_con ha_304) (by kernel_rfl) ?_
    refine W.at 0 100000 [Co.own 4 (Ty.str)] [4, 12, 13, 14] (c' := (fun (s_320 : Int × List (List UInt8)) => (Cfg.mk Mode.run (headTodo Go.Proofs.Tryd.prog 60 0) (St.mk [jj, jj, jj, jj, AV.view (0 : Nat) (0 : Nat) Option.none, jj, jj, jj, jj, jj, jj, jj, AV.view (1 : Nat) (0 : Nat) Option.none, AV.int IntKind.i64 ((↑(List.length a_304) : Int) - (↑(0 : Nat) : Int)), AV.int IntKind.i64 (Prod.fst s_320), jj, jj, jj, jj, jj, jj, jj, jj, jj, jj, jj, jj, jj, jj, jj, jj, jj, jj, jj, jj, jj, jj, jj, jj, jj, jj, jj] [AO.row Ty.str (Prod.snd s_320), AO.row Ty.str a_304] (0 : Nat)))) ((0 : Int), [])) (by kernel_rfl) ?_
    refine W.loop (fun (s_320 : Int × List (List UInt8)) => (Cfg.mk Mode.run (headTodo Go.Proofs.Tryd.prog 60 0) (St.mk [jj, jj, jj, jj, AV.view (0 : Nat) (0 : Nat) Option.none, jj, jj, jj, jj, jj, jj, jj, AV.view (1 : Nat) (0 : Nat) Option.none, AV.int IntKind.i64 ((↑(List.length a_304) : Int) - (↑(0 : Nat) : Int)), AV.int IntKind.i64 (Prod.fst s_320), jj, jj, jj, jj, jj, jj, jj, jj, jj, jj, jj, jj, jj, jj, jj, jj, jj, jj, jj, jj, jj, jj, jj, jj, jj, jj, jj] [AO.row Ty.str (Prod.snd s_320), AO.row Ty.str a_304] (0 : Nat)))) (fun t_313 => Walk Go.Proofs.Tryd.prog 60 (Cfg.mk Mode.run ((headTodo Go.Proofs.Tryd.prog 60 0).drop 3) (St.mk [jj, jj, jj, jj, AV.view (0 : Nat) (0 : Nat) Option.none, jj, jj, jj, jj, jj, jj, jj, jj, jj, jj, jj, jj, jj, jj, jj, jj, jj, jj, jj, jj, jj, jj, jj, jj, jj, jj, jj, jj, jj, jj, jj, jj, jj, jj, jj, jj, jj] [AO.row Ty.str t_313] (0 : Nat))) (path_Clean_res r) (path_Clean_out r)) h (fun t_313 h => ?_) (fun s_320 x316 h316 K316 => ?_)
    ·
      refine W.bind h fun a_314 ha_314 h => ?_
      refine W.call 0 100000 (by kernel_rfl) (strings_Join_con ha_314) (by kernel_rfl) ?_
      refine W.needT 0 100000 h (by kernel_rfl) (fun h => ?_)
      refine W.cond 0 100000 h (by kernel_rfl) (fun h => ?_) (fun h => ?_)
      ·
        exact W.retT 0 100000 h (by kernel_rfl)
      ·
        exact W.retT 0 100000 h (by kernel_rfl)
    · unfold path_Clean_b0 at h316
      refine W.cond 2 100000 h316 (by kernel_rfl) (fun h316 => ?_) (fun h316 => ?_)
      ·
        refine W.needT 2 100000 h316 (by kernel_rfl) (fun h316 => ?_)
        refine W.needT 2 100000 h316 (by kernel_rfl) (fun h316 => ?_)
        refine W.cond 2 100000 h316 (by kernel_rfl) (fun h316 => ?_) (fun h316 => ?_)
        ·
          cases h316; exact W.at 2 100000 [Co.own 4 (Ty.str)] [4, 12, 13, 14] (by kernel_rfl) K316
        ·
          refine W.cond 2 100000 h316 (by kernel_rfl) (fun h316 => ?_) (fun h316 => ?_)
          ·
            refine W.needT 2 100000 h316 (by kernel_rfl) (fun h316 => ?_)
            cases h316; exact W.at 2 100000 [Co.own 4 (Ty.str)] [4, 12, 13, 14] (by kernel_rfl) K316
          ·
            refine W.needT 2 100000 h316 (by kernel_rfl) (fun h316 => ?_)
            cases h316; exact W.at 2 100000 [Co.own 4 (Ty.str)] [4, 12, 13, 14] (by kernel_rfl) K316
      ·
        cases h316; exact W.at 2 100000 [] [4] (by kernel_rfl) K316

theorem path_Right_con {s_194 : List UInt8} {r : Bool} (h : path_Right s_194 = some r) : Con Go.Proofs.Tryd.prog 43 [AV.str s_194] [] (path_Right_res r) (path_Right_out r) := by
  refine W.con (by kernel_rfl) ?_
  unfold path_Right at h
  refine W.bind h fun a_321 ha_321 h => ?_
  refine W.call 0 100000 (by kernel_rfl) (path_Clean_con ha_321) (by kernel_rfl) ?_
  refine W.cond 0 100000 h (by kernel_rfl) (fun h => ?_) (fun h => ?_)
  ·
    refine W.yes 0 100000 (by kernel_rfl) ?_
    refine W.yes 0 100000 (by kernel_rfl) ?_
    refine W.yes 0 100000 (by kernel_rfl) ?_
    exact W.retT 0 100000 h (by kernel_rfl)
  ·
    refine W.no 0 100000 (by kernel_rfl) ?_
    refine W.no 0 100000 (by kernel_rfl) ?_
    refine W.no 0 100000 (by kernel_rfl) ?_
    exact W.retT 0 100000 h (by kernel_rfl)

theorem cellarerref02_Parts_con {s_333 : List UInt8} {r : List (List UInt8)} (h : cellarerref02_Parts s_333 = some r) : Con Go.Proofs.Tryd.prog 71 [AV.str s_333] [] (cellarerref02_Parts_res r) (cellarerref02_Parts_out r) := by
  refine W.con (by kernel_rfl) ?_
  unfold cellarerref02_Parts at h
  refine W.at 0 100000 [Co.own 3 (Ty.str)] [0, 3, 4, 5] (c' := (fun (s_348 : List UInt8 × Int × List (List UInt8)) => (Cfg.mk Mode.run (headTodo Go.Proofs.Tryd.prog 71 0) (St.mk [AV.str s_333, jj, jj, AV.view (0 : Nat) (0 : Nat) Option.none, AV.str (Prod.fst s_348), AV.int IntKind.i64 (Prod.fst (Prod.snd s_348)), jj, jj, jj, jj, jj, jj, jj, jj, jj, jj, jj, jj, jj, jj, jj, jj, jj, jj, jj, jj, jj, jj, jj, jj, jj, jj, jj, jj, jj, jj] [AO.row Ty.str (Prod.snd (Prod.snd s_348))] (0 : Nat)))) ([], (0 : Int), [])) (by kernel_rfl) ?_
  refine W.loop (fun (s_348 : List UInt8 × Int × List (List UInt8)) => (Cfg.mk Mode.run (headTodo Go.Proofs.Tryd.prog 71 0) (St.mk [AV.str s_333, jj, jj, AV.view (0 : Nat) (0 : Nat) Option.none, AV.str (Prod.fst s_348), AV.int IntKind.i64 (Prod.fst (Prod.snd s_348)), jj, jj, jj, jj, jj, jj, jj, jj, jj, jj, jj, jj, jj, jj, jj, jj, jj, jj, jj, jj, jj, jj, jj, jj, jj, jj, jj, jj, jj, jj] [AO.row Ty.str (Prod.snd (Prod.snd s_348))] (0 : Nat)))) (fun t_343 => Walk Go.Proofs.Tryd.prog 71 (Cfg.mk Mode.run ((headTodo Go.Proofs.Tryd.prog 71 0).drop 3) (St.mk [jj, jj, jj, AV.view (0 : Nat) (0 : Nat) Option.none, AV.str (Prod.fst t_343), jj, jj, jj, jj, jj, jj, jj, jj, jj, jj, jj, jj, jj, jj, jj, jj, jj, jj, jj, jj, jj, jj, jj, jj, jj, jj, jj, jj, jj, jj, jj] [AO.row Ty.str (Prod.snd t_343)] (0 : Nat))) (cellarerref02_Parts_res r) (cellarerref02_Parts_out r)) h (fun t_343 h => ?_) (fun s_348 x345 h345 K345 => ?_)
  ·
    refine W.cond 0 100000 h (by kernel_rfl) (fun h => ?_) (fun h => ?_)
    ·
      refine W.needT 0 100000 h (by kernel_rfl) (fun h => ?_)
      exact W.retT 0 100000 h (by kernel_rfl)
    ·
      exact W.retT 0 100000 h (by kernel_rfl)
  · unfold cellarerref02_Parts_b0 at h345
    refine W.cond 2 100000 h345 (by kernel_rfl) (fun h345 => ?_) (fun h345 => ?_)
    ·
      refine W.needT 2 100000 h345 (by kernel_rfl) (fun h345 => ?_)
      refine W.cond 2 100000 h345 (by kernel_rfl) (fun h345 => ?_) (fun h345 => ?_)
      ·
        refine W.needT 2 100000 h345 (by kernel_rfl) (fun h345 => ?_)
        refine W.needT 2 100000 h345 (by kernel_rfl) (fun h345 => ?_)
        cases h345; exact W.at 2 100000 [Co.own 3 (Ty.str)] [0, 3, 4, 5] (by kernel_rfl) K345
      ·
        refine W.cond 2 100000 h345 (by kernel_rfl) (fun h345 => ?_) (fun h345 => ?_)
        ·
          refine W.needT 2 100000 h345 (by kernel_rfl) (fun h345 => ?_)
          cases h345; exact W.at 2 100000 [Co.own 3 (Ty.str)] [0, 3, 4, 5] (by kernel_rfl) K345
        ·
          cases h345; exact W.at 2 100000 [Co.own 3 (Ty.str)] [0, 3, 4, 5] (by kernel_rfl) K345
    ·
      cases h345; exact W.at 2 100000 [] [3, 4] (by kernel_rfl) K345

theorem cellarerref02_Joined_con {l_357 : List (List UInt8)} {r : List UInt8} (h : cellarerref02_Joined l_357 = some r) : Con Go.Proofs.Tryd.prog 72 [AV.list Ty.str l_357 Bool.false] [] (cellarerref02_Joined_res r) (cellarerref02_Joined_out r) := by
  refine W.con (by kernel_rfl) ?_
  unfold cellarerref02_Joined at h
  refine W.cond 0 100000 h (by kernel_rfl) (fun h => ?_) (fun h => ?_)
  ·
    exact W.retT 0 100000 h (by kernel_rfl)
  ·
    refine W.at 0 100000 [] [0, 3, 4] (c' := (fun (s_367 : List UInt8 × Int) => (Cfg.mk Mode.run (headTodo Go.Proofs.Tryd.prog 72 0) (St.mk [AV.list Ty.str l_357 Bool.false, jj, jj, AV.str (Prod.fst s_367), AV.int IntKind.i64 (Prod.snd s_367), jj, jj, jj, jj, jj, jj, jj, jj, jj, jj, jj, jj, jj, jj, jj, jj, jj] [] (0 : Nat)))) ([], (0 : Int))) (by kernel_rfl) ?_
    refine W.loop (fun (s_367 : List UInt8 × Int) => (Cfg.mk Mode.run (headTodo Go.Proofs.Tryd.prog 72 0) (St.mk [AV.list Ty.str l_357 Bool.false, jj, jj, AV.str (Prod.fst s_367), AV.int IntKind.i64 (Prod.snd s_367), jj, jj, jj, jj, jj, jj, jj, jj, jj, jj, jj, jj, jj, jj, jj, jj, jj] [] (0 : Nat)))) (fun t_362 => Walk Go.Proofs.Tryd.prog 72 (Cfg.mk Mode.run ((headTodo Go.Proofs.Tryd.prog 72 0).drop 3) (St.mk [jj, jj, jj, AV.str t_362, jj, jj, jj, jj, jj, jj, jj, jj, jj, jj, jj, jj, jj, jj, jj, jj, jj, jj] [] (0 : Nat))) (cellarerref02_Joined_res r) (cellarerref02_Joined_out r)) h (fun t_362 h => ?_) (fun s_367 x364 h364 K364 => ?_)
    ·
      exact W.retT 0 100000 h (by kernel_rfl)
    · unfold cellarerref02_Joined_b0 at h364
      refine W.cond 2 100000 h364 (by kernel_rfl) (fun h364 => ?_) (fun h364 => ?_)
      ·
        refine W.needT 2 100000 h364 (by kernel_rfl) (fun h364 => ?_)
        refine W.needT 2 100000 h364 (by kernel_rfl) (fun h364 => ?_)
        refine W.needT 2 100000 h364 (by kernel_rfl) (fun h364 => ?_)
        cases h364; exact W.at 2 100000 [] [0, 3, 4] (by kernel_rfl) K364
      ·
        cases h364; exact W.at 2 100000 [] [3] (by kernel_rfl) K364

theorem cellarerref02_Clean_con {s_326 : List UInt8} {r : List UInt8 × Int} (h : cellarerref02_Clean s_326 = some r) : Con Go.Proofs.Tryd.prog 61 [AV.str s_326] [] (cellarerref02_Clean_res r) (cellarerref02_Clean_out r) := by
  refine W.con (by kernel_rfl) ?_
  unfold cellarerref02_Clean at h
  refine W.join (fun t => (Sum.elim (fun t_327 => r = ([], (1 : Int))) (fun t_328 => Walk Go.Proofs.Tryd.prog 61 (Cfg.mk Mode.run (seqTodo Go.Proofs.Tryd.prog 61 1) (St.mk [AV.str s_326, jj, jj, jj, jj, jj, jj, jj, jj, jj, jj, jj, jj, jj, jj, jj, jj, jj, jj, jj, jj, jj, jj, jj, jj, jj, jj, jj, jj, jj, jj, jj, jj, jj, jj, jj, jj, jj, jj, jj, jj, jj, jj, jj, jj, jj, jj, jj, jj, jj, jj, jj, jj, jj, jj, jj, jj, jj, jj, jj, jj, jj, jj, jj, jj, jj, jj, jj, jj, jj, jj, jj] [] (0 : Nat))) (cellarerref02_Clean_res r) (cellarerref02_Clean_out r))) t) h (fun t h => ?_) (fun t372 h372 K372 => ?_)
  ·
    rcases t with t_327 | t_328
    · replace h := W.inl (h)
      refine W.elimL (?_)
      exact (Option.some.inj h).symm
    · replace h := W.inr (h)
      refine W.elimR (?_)
      refine W.at 0 100000 [] [0, 4] (c' := (fun (s_377 : Int) => (Cfg.mk Mode.run (headTodo Go.Proofs.Tryd.prog 61 0) (St.mk [AV.str s_326, jj, jj, jj, AV.int IntKind.i64 s_377, jj, jj, jj, jj, jj, jj, jj, jj, jj, jj, jj, jj, jj, jj, jj, jj, jj, jj, jj, jj, jj, jj, jj, jj, jj, jj, jj, jj, jj, jj, jj, jj, jj, jj, jj, jj, jj, jj, jj, jj, jj, jj, jj, jj, jj, jj, jj, jj, jj, jj, jj, jj, jj, jj, jj, jj, jj, jj, jj, jj, jj, jj, jj, jj, jj, jj, jj] [] (0 : Nat)))) ((0 : Int))) (by kernel_rfl) ?_
      refine W.loop (fun (s_377 : Int) => (Cfg.mk Mode.run (headTodo Go.Proofs.Tryd.prog 61 0) (St.mk [AV.str s_326, jj, jj, jj, AV.int IntKind.i64 s_377, jj, jj, jj, jj, jj, jj, jj, jj, jj, jj, jj, jj, jj, jj, jj, jj, jj, jj, jj, jj, jj, jj, jj, jj, jj, jj, jj, jj, jj, jj, jj, jj, jj, jj, jj, jj, jj, jj, jj, jj, jj, jj, jj, jj, jj, jj, jj, jj, jj, jj, jj, jj, jj, jj, jj, jj, jj, jj, jj, jj, jj, jj, jj, jj, jj, jj, jj] [] (0 : Nat)))) (fun t => (Sum.elim (fun t_331 => r = ([], (1 : Int))) (fun t_332 => Walk Go.Proofs.Tryd.prog 61 (Cfg.mk Mode.run ((headTodo Go.Proofs.Tryd.prog 61 0).drop 3) (St.mk [AV.str s_326, jj, jj, jj, jj, jj, jj, jj, jj, jj, jj, jj, jj, jj, jj, jj, jj, jj, jj, jj, jj, jj, jj, jj, jj, jj, jj, jj, jj, jj, jj, jj, jj, jj, jj, jj, jj, jj, jj, jj, jj, jj, jj, jj, jj, jj, jj, jj, jj, jj, jj, jj, jj, jj, jj, jj, jj, jj, jj, jj, jj, jj, jj, jj, jj, jj, jj, jj, jj, jj, jj, jj] [] (0 : Nat))) (cellarerref02_Clean_res r) (cellarerref02_Clean_out r))) t) h (fun t h => ?_) (fun s_377 x371 h371 K371 => ?_)
      ·
        rcases t with t_331 | t_332
        · replace h := W.inl (h)
          refine W.elimL (?_)
          exact (Option.some.inj h).symm
        · replace h := W.inr (h)
          refine W.elimR (?_)
          refine W.bind h fun a_349 ha_349 h => ?_
          refine W.call 0 100000 (by kernel_rfl) (cellarerref02_Parts_con ha_349) (by kernel_rfl) ?_
          refine W.at 0 100000 [Co.own 6 (Ty.str)] [5, 6, 7] (c' := (fun (s_378 : Int × List (List UInt8)) => (Cfg.mk Mode.run (headTodo Go.Proofs.Tryd.prog 61 1) (St.mk [jj, jj, jj, jj, jj, AV.view (0 : Nat) (0 : Nat) Option.none, AV.view (1 : Nat) (0 : Nat) Option.none, AV.int IntKind.i64 (Prod.fst s_378), jj, jj, jj, jj, jj, jj, jj, jj, jj, jj, jj, jj, jj, jj, jj, jj, jj, jj, jj, jj, jj, jj, jj, jj, jj, jj, jj, jj, jj, jj, jj, jj, jj, jj, jj, jj, jj, jj, jj, jj, jj, jj, jj, jj, jj, jj, jj, jj, jj, jj, jj, jj, jj, jj, jj, jj, jj, jj, jj, jj, jj, jj, jj, jj] [AO.row Ty.str a_349, AO.row Ty.str (Prod.snd s_378)] (0 : Nat)))) ((0 : Int), [])) (by kernel_rfl) ?_
          refine W.loop (fun (s_378 : Int × List (List UInt8)) => (Cfg.mk Mode.run (headTodo Go.Proofs.Tryd.prog 61 1) (St.mk [jj, jj, jj, jj, jj, AV.view (0 : Nat) (0 : Nat) Option.none, AV.view (1 : Nat) (0 : Nat) Option.none, AV.int IntKind.i64 (Prod.fst s_378), jj, jj, jj, jj, jj, jj, jj, jj, jj, jj, jj, jj, jj, jj, jj, jj, jj, jj, jj, jj, jj, jj, jj, jj, jj, jj, jj, jj, jj, jj, jj, jj, jj, jj, jj, jj, jj, jj, jj, jj, jj, jj, jj, jj, jj, jj, jj, jj, jj, jj, jj, jj, jj, jj, jj, jj, jj, jj, jj, jj, jj, jj, jj, jj] [AO.row Ty.str a_349, AO.row Ty.str (Prod.snd s_378)] (0 : Nat)))) (fun t_356 => Walk Go.Proofs.Tryd.prog 61 (Cfg.mk Mode.run ((headTodo Go.Proofs.Tryd.prog 61 1).drop 3) (St.mk [jj, jj, jj, jj, jj, jj, AV.view (0 : Nat) (0 : Nat) Option.none, jj, jj, jj, jj, jj, jj, jj, jj, jj, jj, jj, jj, jj, jj, jj, jj, jj, jj, jj, jj, jj, jj, jj, jj, jj, jj, jj, jj, jj, jj, jj, jj, jj, jj, jj, jj, jj, jj, jj, jj, jj, jj, jj, jj, jj, jj, jj, jj, jj, jj, jj, jj, jj, jj, jj, jj, jj, jj, jj, jj, jj, jj, jj, jj, jj] [AO.row Ty.str t_356] (0 : Nat))) (cellarerref02_Clean_res r) (cellarerref02_Clean_out r)) h (fun t_356 h => ?_) (fun s_378 x370 h370 K370 => ?_)
          ·
            refine W.bind h fun a_368 ha_368 h => ?_
            refine W.call 0 100000 (by kernel_rfl) (cellarerref02_Joined_con ha_368) (by kernel_rfl) ?_
            refine W.cond 0 100000 h (by kernel_rfl) (fun h => ?_) (fun h => ?_)
            ·
              exact W.retT 0 100000 h (by kernel_rfl)
            ·
              exact W.retT 0 100000 h (by kernel_rfl)
          · unfold cellarerref02_Clean_b1 at h370
            refine W.cond 2 100000 h370 (by kernel_rfl) (fun h370 => ?_) (fun h370 => ?_)
            ·
              refine W.needT 2 100000 h370 (by kernel_rfl) (fun h370 => ?_)
              refine W.needT 2 100000 h370 (by kernel_rfl) (fun h370 => ?_)
              refine W.cond 2 100000 h370 (by kernel_rfl) (fun h370 => ?_) (fun h370 => ?_)
              ·
                refine W.cond 2 100000 h370 (by kernel_rfl) (fun h370 => ?_) (fun h370 => ?_)
                ·
                  refine W.needT 2 100000 h370 (by kernel_rfl) (fun h370 => ?_)
                  cases h370; exact W.at 2 100000 [Co.own 6 (Ty.str)] [5, 6, 7] (by kernel_rfl) K370
                ·
                  cases h370; exact W.at 2 100000 [Co.own 6 (Ty.str)] [5, 6, 7] (by kernel_rfl) K370
              ·
                refine W.needT 2 100000 h370 (by kernel_rfl) (fun h370 => ?_)
                refine W.needT 2 100000 h370 (by kernel_rfl) (fun h370 => ?_)
                refine W.cond 2 100000 h370 (by kernel_rfl) (fun h370 => ?_) (fun h370 => ?_)
                ·
                  refine W.needT 2 100000 h370 (by kernel_rfl) (fun h370 => ?_)
                  refine W.needT 2 100000 h370 (by kernel_rfl) (fun h370 => ?_)
                  refine W.needT 2 100000 h370 (by kernel_rfl) (fun h370 => ?_)
                  cases h370; exact W.at 2 100000 [Co.own 6 (Ty.str)] [5, 6, 7] (by kernel_rfl) K370
                ·
                  cases h370; exact W.at 2 100000 [Co.own 6 (Ty.str)] [5, 6, 7] (by kernel_rfl) K370
            ·
              cases h370; exact W.at 2 100000 [] [6] (by kernel_rfl) K370
      · unfold cellarerref02_Clean_b0 at h371
        refine W.cond 2 100000 h371 (by kernel_rfl) (fun h371 => ?_) (fun h371 => ?_)
        ·
          refine W.needT 2 100000 h371 (by kernel_rfl) (fun h371 => ?_)
          refine W.cond 2 100000 h371 (by kernel_rfl) (fun h371 => ?_) (fun h371 => ?_)
          ·
            refine W.yes 2 100000 (by kernel_rfl) ?_
            refine W.yes 2 100000 (by kernel_rfl) ?_
            refine W.yes 2 100000 (by kernel_rfl) ?_
            refine W.yes 2 100000 (by kernel_rfl) ?_
            refine W.yes 2 100000 (by kernel_rfl) ?_
            cases h371; exact W.retK 2 100000 K371 (by kernel_rfl)
          ·
            refine W.no 2 100000 (by kernel_rfl) ?_
            refine W.no 2 100000 (by kernel_rfl) ?_
            refine W.needT 2 100000 h371 (by kernel_rfl) (fun h371 => ?_)
            refine W.no 2 100000 (by kernel_rfl) ?_
            refine W.no 2 100000 (by kernel_rfl) ?_
            refine W.cond 2 100000 h371 (by kernel_rfl) (fun h371 => ?_) (fun h371 => ?_)
            ·
              cases h371; exact W.retK 2 100000 K371 (by kernel_rfl)
            ·
              cases h371; exact W.at 2 100000 [] [0, 4] (by kernel_rfl) K371
        ·
          cases h371; exact W.at 2 100000 [] [0] (by kernel_rfl) K371
  · refine W.next 0 6 (by kernel_rfl) ?_
    refine W.cond 1 100000 h372 (by kernel_rfl) (fun h372 => ?_) (fun h372 => ?_)
    ·
      refine W.yes 1 100000 (by kernel_rfl) ?_
      refine W.yes 1 100000 (by kernel_rfl) ?_
      refine W.yes 1 100000 (by kernel_rfl) ?_
      refine W.yes 1 100000 (by kernel_rfl) ?_
      cases h372; exact W.retK 1 100000 K372 (by kernel_rfl)
    ·
      refine W.no 1 100000 (by kernel_rfl) ?_
      refine W.needT 1 100000 h372 (by kernel_rfl) (fun h372 => ?_)
      refine W.no 1 100000 (by kernel_rfl) ?_
      refine W.no 1 100000 (by kernel_rfl) ?_
      refine W.cond 1 100000 h372 (by kernel_rfl) (fun h372 => ?_) (fun h372 => ?_)
      ·
        cases h372; exact W.retK 1 100000 K372 (by kernel_rfl)
      ·
        cases h372; exact W.at 1 100000 [] [0] (by kernel_rfl) K372

theorem cellarerref02_Right_con {s_325 : List UInt8} {r : Bool} (h : cellarerref02_Right s_325 = some r) : Con Go.Proofs.Tryd.prog 44 [AV.str s_325] [] (cellarerref02_Right_res r) (cellarerref02_Right_out r) := by
  refine W.con (by kernel_rfl) ?_
  unfold cellarerref02_Right at h
  refine W.bind h fun a_379 ha_379 h => ?_
  refine W.call 0 100000 (by kernel_rfl) (cellarerref02_Clean_con ha_379) (by kernel_rfl) ?_
  refine W.cond 0 100000 h (by kernel_rfl) (fun h => ?_) (fun h => ?_)
  ·
    refine W.yes 0 100000 (by kernel_rfl) ?_
    refine W.yes 0 100000 (by kernel_rfl) ?_
    refine W.yes 0 100000 (by kernel_rfl) ?_
    exact W.retT 0 100000 h (by kernel_rfl)
  ·
    refine W.no 0 100000 (by kernel_rfl) ?_
    refine W.no 0 100000 (by kernel_rfl) ?_
    refine W.no 0 100000 (by kernel_rfl) ?_
    exact W.retT 0 100000 h (by kernel_rfl)

theorem bits_Right_con {m_383 : Int} {m_384 : Int} {m_385 : Int} {r : Bool} (h : bits_Right m_383 m_384 m_385 = some r) : Con Go.Proofs.Tryd.prog 19 [AV.agg [AV.int IntKind.i64 m_383, AV.int IntKind.i64 m_384, AV.int IntKind.i64 m_385]] [] (bits_Right_res r) (bits_Right_out r) := by
  refine W.con (by kernel_rfl) ?_
  unfold bits_Right at h
  refine W.cond 0 100000 h (by kernel_rfl) (fun h => ?_) (fun h => ?_)
  ·
    refine W.yes 0 100000 (by kernel_rfl) ?_
    refine W.yes 0 100000 (by kernel_rfl) ?_
    refine W.yes 0 100000 (by kernel_rfl) ?_
    refine W.cond 0 100000 h (by kernel_rfl) (fun h => ?_) (fun h => ?_)
    ·
      refine W.yes 0 100000 (by kernel_rfl) ?_
      refine W.yes 0 100000 (by kernel_rfl) ?_
      refine W.yes 0 100000 (by kernel_rfl) ?_
      refine W.cond 0 100000 h (by kernel_rfl) (fun h => ?_) (fun h => ?_)
      ·
        refine W.yes 0 100000 (by kernel_rfl) ?_
        refine W.yes 0 100000 (by kernel_rfl) ?_
        refine W.yes 0 100000 (by kernel_rfl) ?_
        refine W.cond 0 100000 h (by kernel_rfl) (fun h => ?_) (fun h => ?_)
        ·
          refine W.yes 0 100000 (by kernel_rfl) ?_
          refine W.yes 0 100000 (by kernel_rfl) ?_
          refine W.yes 0 100000 (by kernel_rfl) ?_
          refine W.cond 0 100000 h (by kernel_rfl) (fun h => ?_) (fun h => ?_)
          ·
            refine W.yes 0 100000 (by kernel_rfl) ?_
            refine W.yes 0 100000 (by kernel_rfl) ?_
            refine W.yes 0 100000 (by kernel_rfl) ?_
            exact W.retT 0 100000 h (by kernel_rfl)
          ·
            refine W.no 0 100000 (by kernel_rfl) ?_
            refine W.no 0 100000 (by kernel_rfl) ?_
            refine W.no 0 100000 (by kernel_rfl) ?_
            exact W.retT 0 100000 h (by kernel_rfl)
        ·
          refine W.no 0 100000 (by kernel_rfl) ?_
          refine W.no 0 100000 (by kernel_rfl) ?_
          refine W.no 0 100000 (by kernel_rfl) ?_
          refine W.no 0 100000 (by kernel_rfl) ?_
          refine W.no 0 100000 (by kernel_rfl) ?_
          refine W.no 0 100000 (by kernel_rfl) ?_
          refine W.no 0 100000 (by kernel_rfl) ?_
          exact W.retT 0 100000 h (by kernel_rfl)
      ·
        refine W.no 0 100000 (by kernel_rfl) ?_
        refine W.no 0 100000 (by kernel_rfl) ?_
        refine W.no 0 100000 (by kernel_rfl) ?_
        refine W.no 0 100000 (by kernel_rfl) ?_
        refine W.no 0 100000 (by kernel_rfl) ?_
        refine W.no 0 100000 (by kernel_rfl) ?_
        refine W.no 0 100000 (by kernel_rfl) ?_
        refine W.no 0 100000 (by kernel_rfl) ?_
        refine W.no 0 100000 (by kernel_rfl) ?_
        refine W.no 0 100000 (by kernel_rfl) ?_
        refine W.no 0 100000 (by kernel_rfl) ?_
        exact W.retT 0 100000 h (by kernel_rfl)
    ·
      refine W.no 0 100000 (by kernel_rfl) ?_
      refine W.no 0 100000 (by kernel_rfl) ?_
      refine W.no 0 100000 (by kernel_rfl) ?_
      refine W.no 0 100000 (by kernel_rfl) ?_
      refine W.no 0 100000 (by kernel_rfl) ?_
      refine W.no 0 100000 (by kernel_rfl) ?_
      refine W.no 0 100000 (by kernel_rfl) ?_
      refine W.no 0 100000 (by kernel_rfl) ?_
      refine W.no 0 100000 (by kernel_rfl) ?_
      refine W.no 0 100000 (by kernel_rfl) ?_
      refine W.no 0 100000 (by kernel_rfl) ?_
      refine W.no 0 100000 (by kernel_rfl) ?_
      refine W.no 0 100000 (by kernel_rfl) ?_
      refine W.no 0 100000 (by kernel_rfl) ?_
      refine W.no 0 100000 (by kernel_rfl) ?_
      exact W.retT 0 100000 h (by kernel_rfl)
  ·
    refine W.no 0 100000 (by kernel_rfl) ?_
    refine W.no 0 100000 (by kernel_rfl) ?_
    refine W.no 0 100000 (by kernel_rfl) ?_
    refine W.no 0 100000 (by kernel_rfl) ?_
    refine W.no 0 100000 (by kernel_rfl) ?_
    refine W.no 0 100000 (by kernel_rfl) ?_
    refine W.no 0 100000 (by kernel_rfl) ?_
    refine W.no 0 100000 (by kernel_rfl) ?_
    refine W.no 0 100000 (by kernel_rfl) ?_
    refine W.no 0 100000 (by kernel_rfl) ?_
    refine W.no 0 100000 (by kernel_rfl) ?_
    refine W.no 0 100000 (by kernel_rfl) ?_
    refine W.no 0 100000 (by kernel_rfl) ?_
    refine W.no 0 100000 (by kernel_rfl) ?_
    refine W.no 0 100000 (by kernel_rfl) ?_
    refine W.no 0 100000 (by kernel_rfl) ?_
    refine W.no 0 100000 (by kernel_rfl) ?_
    refine W.no 0 100000 (by kernel_rfl) ?_
    refine W.no 0 100000 (by kernel_rfl) ?_
    exact W.retT 0 100000 h (by kernel_rfl)

theorem cellarerref01_Right_con {m_389 : Int} {m_390 : Int} {m_391 : Int} {r : Bool} (h : cellarerref01_Right m_389 m_390 m_391 = some r) : Con Go.Proofs.Tryd.prog 26 [AV.agg [AV.int IntKind.i64 m_389, AV.int IntKind.i64 m_390, AV.int IntKind.i64 m_391]] [] (cellarerref01_Right_res r) (cellarerref01_Right_out r) := by
  refine W.con (by kernel_rfl) ?_
  unfold cellarerref01_Right at h
  refine W.cond 0 100000 h (by kernel_rfl) (fun h => ?_) (fun h => ?_)
  ·
    refine W.yes 0 100000 (by kernel_rfl) ?_
    refine W.yes 0 100000 (by kernel_rfl) ?_
    refine W.yes 0 100000 (by kernel_rfl) ?_
    refine W.cond 0 100000 h (by kernel_rfl) (fun h => ?_) (fun h => ?_)
    ·
      refine W.yes 0 100000 (by kernel_rfl) ?_
      refine W.yes 0 100000 (by kernel_rfl) ?_
      refine W.yes 0 100000 (by kernel_rfl) ?_
      refine W.cond 0 100000 h (by kernel_rfl) (fun h => ?_) (fun h => ?_)
      ·
        refine W.yes 0 100000 (by kernel_rfl) ?_
        refine W.yes 0 100000 (by kernel_rfl) ?_
        refine W.yes 0 100000 (by kernel_rfl) ?_
        refine W.cond 0 100000 h (by kernel_rfl) (fun h => ?_) (fun h => ?_)
        ·
          refine W.yes 0 100000 (by kernel_rfl) ?_
          refine W.yes 0 100000 (by kernel_rfl) ?_
          refine W.yes 0 100000 (by kernel_rfl) ?_
          refine W.cond 0 100000 h (by kernel_rfl) (fun h => ?_) (fun h => ?_)
          ·
            refine W.yes 0 100000 (by kernel_rfl) ?_
            refine W.yes 0 100000 (by kernel_rfl) ?_
            refine W.yes 0 100000 (by kernel_rfl) ?_
            exact W.retT 0 100000 h (by kernel_rfl)
          ·
            refine W.no 0 100000 (by kernel_rfl) ?_
            refine W.no 0 100000 (by kernel_rfl) ?_
            refine W.no 0 100000 (by kernel_rfl) ?_
            exact W.retT 0 100000 h (by kernel_rfl)
        ·
          refine W.no 0 100000 (by kernel_rfl) ?_
          refine W.no 0 100000 (by kernel_rfl) ?_
          refine W.no 0 100000 (by kernel_rfl) ?_
          refine W.no 0 100000 (by kernel_rfl) ?_
          refine W.no 0 100000 (by kernel_rfl) ?_
          refine W.no 0 100000 (by kernel_rfl) ?_
          refine W.no 0 100000 (by kernel_rfl) ?_
          exact W.retT 0 100000 h (by kernel_rfl)
      ·
        refine W.no 0 100000 (by kernel_rfl) ?_
        refine W.no 0 100000 (by kernel_rfl) ?_
        refine W.no 0 100000 (by kernel_rfl) ?_
        refine W.no 0 100000 (by kernel_rfl) ?_
        refine W.no 0 100000 (by kernel_rfl) ?_
        refine W.no 0 100000 (by kernel_rfl) ?_
        refine W.no 0 100000 (by kernel_rfl) ?_
        refine W.no 0 100000 (by kernel_rfl) ?_
        refine W.no 0 100000 (by kernel_rfl) ?_
        refine W.no 0 100000 (by kernel_rfl) ?_
        refine W.no 0 100000 (by kernel_rfl) ?_
        exact W.retT 0 100000 h (by kernel_rfl)
    ·
      refine W.no 0 100000 (by kernel_rfl) ?_
      refine W.no 0 100000 (by kernel_rfl) ?_
      refine W.no 0 100000 (by kernel_rfl) ?_
      refine W.no 0 100000 (by kernel_rfl) ?_
      refine W.no 0 100000 (by kernel_rfl) ?_
      refine W.no 0 100000 (by kernel_rfl) ?_
      refine W.no 0 100000 (by kernel_rfl) ?_
      refine W.no 0 100000 (by kernel_rfl) ?_
      refine W.no 0 100000 (by kernel_rfl) ?_
      refine W.no 0 100000 (by kernel_rfl) ?_
      refine W.no 0 100000 (by kernel_rfl) ?_
      refine W.no 0 100000 (by kernel_rfl) ?_
      refine W.no 0 100000 (by kernel_rfl) ?_
      refine W.no 0 100000 (by kernel_rfl) ?_
      refine W.no 0 100000 (by kernel_rfl) ?_
      exact W.retT 0 100000 h (by kernel_rfl)
  ·
    refine W.no 0 100000 (by kernel_rfl) ?_
    refine W.no 0 100000 (by kernel_rfl) ?_
    refine W.no 0 100000 (by kernel_rfl) ?_
    refine W.no 0 100000 (by kernel_rfl) ?_
    refine W.no 0 100000 (by kernel_rfl) ?_
    refine W.no 0 100000 (by kernel_rfl) ?_
    refine W.no 0 100000 (by kernel_rfl) ?_
    refine W.no 0 100000 (by kernel_rfl) ?_
    refine W.no 0 100000 (by kernel_rfl) ?_
    refine W.no 0 100000 (by kernel_rfl) ?_
    refine W.no 0 100000 (by kernel_rfl) ?_
    refine W.no 0 100000 (by kernel_rfl) ?_
    refine W.no 0 100000 (by kernel_rfl) ?_
    refine W.no 0 100000 (by kernel_rfl) ?_
    refine W.no 0 100000 (by kernel_rfl) ?_
    refine W.no 0 100000 (by kernel_rfl) ?_
    refine W.no 0 100000 (by kernel_rfl) ?_
    refine W.no 0 100000 (by kernel_rfl) ?_
    refine W.no 0 100000 (by kernel_rfl) ?_
    exact W.retT 0 100000 h (by kernel_rfl)

theorem pack_Reserved_con {p_397 : List UInt8} {r : Bool} (h : pack_Reserved p_397 = some r) : Con Go.Proofs.Tryd.prog 6 [AV.str p_397] [] (pack_Reserved_res r) (pack_Reserved_out r) := by
  refine W.con (by kernel_rfl) ?_
  unfold pack_Reserved at h
  refine W.at 0 100000 [] [0, 5, 6, 7] (c' := (fun (s_412 : Int) => (Cfg.mk Mode.run (headTodo Go.Proofs.Tryd.prog 6 0) (St.mk [AV.str p_397, jj, jj, jj, jj, AV.view (0 : Nat) (0 : Nat) Option.none, AV.int IntKind.i64 ((↑(List.length ((fun (x : List (Ty.T Ty.str)) => x) [[(47 : UInt8), (118 : UInt8), (97 : UInt8), (114 : UInt8), (47 : UInt8), (108 : UInt8), (105 : UInt8), (98 : UInt8), (47 : UInt8), (100 : UInt8), (112 : UInt8), (107 : UInt8), (103 : UInt8)], [(47 : UInt8), (101 : UInt8), (116 : UInt8), (99 : UInt8), (47 : UInt8), (97 : UInt8), (108 : UInt8), (116 : UInt8), (101 : UInt8), (114 : UInt8), (110 : UInt8), (97 : UInt8), (116 : UInt8), (105 : UInt8), (118 : UInt8), (101 : UInt8), (115 : UInt8)]])) : Int) - (↑(0 : Nat) : Int)), AV.int IntKind.i64 s_412, jj, jj, jj, jj, jj, jj, jj, jj, jj, jj, jj, jj, jj, jj, jj, jj, jj, jj, jj, jj, jj, jj] [AO.row Ty.str [[(47 : UInt8), (118 : UInt8), (97 : UInt8), (114 : UInt8), (47 : UInt8), (108 : UInt8), (105 : UInt8), (98 : UInt8), (47 : UInt8), (100 : UInt8), (112 : UInt8), (107 : UInt8), (103 : UInt8)], [(47 : UInt8), (101 : UInt8), (116 : UInt8), (99 : UInt8), (47 : UInt8), (97 : UInt8), (108 : UInt8), (116 : UInt8), (101 : UInt8), (114 : UInt8), (110 : UInt8), (97 : UInt8), (116 : UInt8), (105 : UInt8), (118 : UInt8), (101 : UInt8), (115 : UInt8)]]] (0 : Nat)))) ((0 : Int))) (by kernel_rfl) ?_
  refine W.loop (fun (s_412 : Int) => (Cfg.mk Mode.run (headTodo Go.Proofs.Tryd.prog 6 0) (St.mk [AV.str p_397, jj, jj, jj, jj, AV.view (0 : Nat) (0 : Nat) Option.none, AV.int IntKind.i64 ((↑(List.length ((fun (x : List (Ty.T Ty.str)) => x) [[(47 : UInt8), (118 : UInt8), (97 : UInt8), (114 : UInt8), (47 : UInt8), (108 : UInt8), (105 : UInt8), (98 : UInt8), (47 : UInt8), (100 : UInt8), (112 : UInt8), (107 : UInt8), (103 : UInt8)], [(47 : UInt8), (101 : UInt8), (116 : UInt8), (99 : UInt8), (47 : UInt8), (97 : UInt8), (108 : UInt8), (116 : UInt8), (101 : UInt8), (114 : UInt8), (110 : UInt8), (97 : UInt8), (116 : UInt8), (105 : UInt8), (118 : UInt8), (101 : UInt8), (115 : UInt8)]])) : Int) - (↑(0 : Nat) : Int)), AV.int IntKind.i64 s_412, jj, jj, jj, jj, jj, jj, jj, jj, jj, jj, jj, jj, jj, jj, jj, jj, jj, jj, jj, jj, jj, jj] [AO.row Ty.str [[(47 : UInt8), (118 : UInt8), (97 : UInt8), (114 : UInt8), (47 : UInt8), (108 : UInt8), (105 : UInt8), (98 : UInt8), (47 : UInt8), (100 : UInt8), (112 : UInt8), (107 : UInt8), (103 : UInt8)], [(47 : UInt8), (101 : UInt8), (116 : UInt8), (99 : UInt8), (47 : UInt8), (97 : UInt8), (108 : UInt8), (116 : UInt8), (101 : UInt8), (114 : UInt8), (110 : UInt8), (97 : UInt8), (116 : UInt8), (105 : UInt8), (118 : UInt8), (101 : UInt8), (115 : UInt8)]]] (0 : Nat)))) (fun t => (Sum.elim (fun t_403 => r = (Bool.true)) (fun t_404 => Walk Go.Proofs.Tryd.prog 6 (Cfg.mk Mode.run ((headTodo Go.Proofs.Tryd.prog 6 0).drop 3) (St.mk [AV.str p_397, jj, jj, jj, jj, jj, jj, jj, jj, jj, jj, jj, jj, jj, jj, jj, jj, jj, jj, jj, jj, jj, jj, jj, jj, jj, jj, jj, jj, jj] [] (0 : Nat))) (pack_Reserved_res r) (pack_Reserved_out r))) t) h (fun t h => ?_) (fun s_412 x409 h409 K409 => ?_)
  ·
    rcases t with t_403 | t_404
    · replace h := W.inl (h)
      refine W.elimL (?_)
      exact (Option.some.inj h).symm
    · replace h := W.inr (h)
      refine W.elimR (?_)
      refine W.bind h fun a_405 ha_405 h => ?_
      refine W.call 0 100000 (by kernel_rfl) (strings_HasSuffix_con ha_405) (by kernel_rfl) ?_
      refine W.cond 0 100000 h (by kernel_rfl) (fun h => ?_) (fun h => ?_)
      ·
        refine W.yes 0 100000 (by kernel_rfl) ?_
        refine W.yes 0 100000 (by kernel_rfl) ?_
        refine W.yes 0 100000 (by kernel_rfl) ?_
        refine W.yes 0 100000 (by kernel_rfl) ?_
        refine W.yes 0 100000 (by kernel_rfl) ?_
        exact W.retT 0 100000 h (by kernel_rfl)
      ·
        refine W.no 0 100000 (by kernel_rfl) ?_
        refine W.bind h fun a_406 ha_406 h => ?_
        refine W.call 0 100000 (by kernel_rfl) (strings_HasSuffix_con ha_406) (by kernel_rfl) ?_
        refine W.no 0 100000 (by kernel_rfl) ?_
        refine W.cond 0 100000 h (by kernel_rfl) (fun h => ?_) (fun h => ?_)
        ·
          refine W.yes 0 100000 (by kernel_rfl) ?_
          refine W.yes 0 100000 (by kernel_rfl) ?_
          exact W.retT 0 100000 h (by kernel_rfl)
        ·
          refine W.no 0 100000 (by kernel_rfl) ?_
          refine W.bind h fun a_407 ha_407 h => ?_
          refine W.call 0 100000 (by kernel_rfl) (strings_HasSuffix_con ha_407) (by kernel_rfl) ?_
          refine W.no 0 100000 (by kernel_rfl) ?_
          exact W.retT 0 100000 h (by kernel_rfl)
  · unfold pack_Reserved_b0 at h409
    refine W.cond 2 100000 h409 (by kernel_rfl) (fun h409 => ?_) (fun h409 => ?_)
    ·
      refine W.needT 2 100000 h409 (by kernel_rfl) (fun h409 => ?_)
      refine W.needT 2 100000 h409 (by kernel_rfl) (fun h409 => ?_)
      refine W.cond 2 100000 h409 (by kernel_rfl) (fun h409 => ?_) (fun h409 => ?_)
      ·
        refine W.yes 2 100000 (by kernel_rfl) ?_
        refine W.yes 2 100000 (by kernel_rfl) ?_
        refine W.yes 2 100000 (by kernel_rfl) ?_
        refine W.yes 2 100000 (by kernel_rfl) ?_
        cases h409; exact W.retK 2 100000 K409 (by kernel_rfl)
      ·
        refine W.no 2 100000 (by kernel_rfl) ?_
        refine W.no 2 100000 (by kernel_rfl) ?_
        refine W.bind h409 fun a_402 ha_402 h409 => ?_
        refine W.call 2 100000 (by kernel_rfl) (path_Under_con ha_402) (by kernel_rfl) ?_
        refine W.no 2 100000 (by kernel_rfl) ?_
        refine W.cond 2 100000 h409 (by kernel_rfl) (fun h409 => ?_) (fun h409 => ?_)
        ·
          cases h409; exact W.retK 2 100000 K409 (by kernel_rfl)
        ·
          cases h409; exact W.at 2 100000 [] [0, 5, 6, 7] (by kernel_rfl) K409
    ·
      cases h409; exact W.at 2 100000 [] [0] (by kernel_rfl) K409

theorem pack_place_con {p_395 : List UInt8} {r : Bool} (h : pack_place p_395 = some r) : Con Go.Proofs.Tryd.prog 17 [AV.str p_395] [] (pack_place_res r) (pack_place_out r) := by
  refine W.con (by kernel_rfl) ?_
  unfold pack_place at h
  refine W.bind h fun a_396 ha_396 h => ?_
  refine W.call 0 100000 (by kernel_rfl) (path_Right_con ha_396) (by kernel_rfl) ?_
  refine W.cond 0 100000 h (by kernel_rfl) (fun h => ?_) (fun h => ?_)
  ·
    refine W.yes 0 100000 (by kernel_rfl) ?_
    refine W.yes 0 100000 (by kernel_rfl) ?_
    refine W.cond 0 100000 h (by kernel_rfl) (fun h => ?_) (fun h => ?_)
    ·
      refine W.yes 0 100000 (by kernel_rfl) ?_
      refine W.bind h fun a_413 ha_413 h => ?_
      refine W.call 0 100000 (by kernel_rfl) (pack_Reserved_con ha_413) (by kernel_rfl) ?_
      refine W.yes 0 100000 (by kernel_rfl) ?_
      refine W.yes 0 100000 (by kernel_rfl) ?_
      exact W.retT 0 100000 h (by kernel_rfl)
    ·
      refine W.no 0 100000 (by kernel_rfl) ?_
      refine W.no 0 100000 (by kernel_rfl) ?_
      refine W.no 0 100000 (by kernel_rfl) ?_
      exact W.retT 0 100000 h (by kernel_rfl)
  ·
    refine W.no 0 100000 (by kernel_rfl) ?_
    refine W.no 0 100000 (by kernel_rfl) ?_
    refine W.no 0 100000 (by kernel_rfl) ?_
    refine W.no 0 100000 (by kernel_rfl) ?_
    refine W.no 0 100000 (by kernel_rfl) ?_
    refine W.no 0 100000 (by kernel_rfl) ?_
    exact W.retT 0 100000 h (by kernel_rfl)

theorem pack_by_con {s_417 : List UInt8} {r : Bool} (h : pack_by s_417 = some r) : Con Go.Proofs.Tryd.prog 18 [AV.str s_417] [] (pack_by_res r) (pack_by_out r) := by
  refine W.con (by kernel_rfl) ?_
  unfold pack_by at h
  refine W.cond 0 100000 h (by kernel_rfl) (fun h => ?_) (fun h => ?_)
  ·
    refine W.yes 0 100000 (by kernel_rfl) ?_
    refine W.yes 0 100000 (by kernel_rfl) ?_
    exact W.retT 0 100000 h (by kernel_rfl)
  ·
    refine W.no 0 100000 (by kernel_rfl) ?_
    refine W.bind h fun a_418 ha_418 h => ?_
    refine W.call 0 100000 (by kernel_rfl) (path_Name_con ha_418) (by kernel_rfl) ?_
    refine W.no 0 100000 (by kernel_rfl) ?_
    exact W.retT 0 100000 h (by kernel_rfl)

theorem pack_link_con {p_422 : List UInt8} {r : Bool} (h : pack_link p_422 = some r) : Con Go.Proofs.Tryd.prog 20 [AV.str p_422] [] (pack_link_res r) (pack_link_out r) := by
  refine W.con (by kernel_rfl) ?_
  unfold pack_link at h
  refine W.bind h fun a_423 ha_423 h => ?_
  refine W.call 0 100000 (by kernel_rfl) (pack_place_con ha_423) (by kernel_rfl) ?_
  refine W.cond 0 100000 h (by kernel_rfl) (fun h => ?_) (fun h => ?_)
  ·
    refine W.yes 0 100000 (by kernel_rfl) ?_
    refine W.needT 0 100000 h (by kernel_rfl) (fun h => ?_)
    refine W.yes 0 100000 (by kernel_rfl) ?_
    refine W.bind h fun a_424 ha_424 h => ?_
    refine W.call 0 100000 (by kernel_rfl) (path_Right_con ha_424) (by kernel_rfl) ?_
    refine W.yes 0 100000 (by kernel_rfl) ?_
    exact W.retT 0 100000 h (by kernel_rfl)
  ·
    refine W.no 0 100000 (by kernel_rfl) ?_
    refine W.no 0 100000 (by kernel_rfl) ?_
    refine W.no 0 100000 (by kernel_rfl) ?_
    exact W.retT 0 100000 h (by kernel_rfl)

theorem pack_name_con {s_457 : List UInt8} {r : Bool} (h : pack_name s_457 = some r) : Con Go.Proofs.Tryd.prog 22 [AV.str s_457] [] (pack_name_res r) (pack_name_out r) := by
  refine W.con (by kernel_rfl) ?_
  unfold pack_name at h
  refine W.bind h fun a_458 ha_458 h => ?_
  refine W.call 0 100000 (by kernel_rfl) (path_Name_con ha_458) (by kernel_rfl) ?_
  refine W.cond 0 100000 h (by kernel_rfl) (fun h => ?_) (fun h => ?_)
  ·
    refine W.yes 0 100000 (by kernel_rfl) ?_
    refine W.needT 0 100000 h (by kernel_rfl) (fun h => ?_)
    refine W.yes 0 100000 (by kernel_rfl) ?_
    refine W.bind h fun a_459 ha_459 h => ?_
    refine W.call 0 100000 (by kernel_rfl) (pack_Reserved_con ha_459) (by kernel_rfl) ?_
    refine W.yes 0 100000 (by kernel_rfl) ?_
    refine W.yes 0 100000 (by kernel_rfl) ?_
    exact W.retT 0 100000 h (by kernel_rfl)
  ·
    refine W.no 0 100000 (by kernel_rfl) ?_
    refine W.no 0 100000 (by kernel_rfl) ?_
    refine W.no 0 100000 (by kernel_rfl) ?_
    refine W.no 0 100000 (by kernel_rfl) ?_
    exact W.retT 0 100000 h (by kernel_rfl)

theorem pack_slaves_con {a_428 : Int} {a_429 : List UInt8} {a_430 : List UInt8} {a_431 : List UInt8} {a_432 : Int} {a_433 : Int} {a_434 : Int} {a_435 : Int} {a_436 : Bool} {a_437 : Bool} {a_438 : List (List UInt8 × List UInt8)} {a_439 : List (List UInt8)} {r : Bool} (h : pack_slaves a_428 a_429 a_430 a_431 a_432 a_433 a_434 a_435 a_436 a_437 a_438 a_439 = some r) : Con Go.Proofs.Tryd.prog 21 [AV.agg [AV.int IntKind.i64 a_428, AV.str a_429, AV.str a_430, AV.str a_431, AV.int IntKind.i64 a_432, AV.int IntKind.i64 a_433, AV.int IntKind.i64 a_434, AV.int IntKind.i64 a_435, AV.bool a_436, AV.bool a_437, AV.list (Ty.prod Ty.str Ty.str) a_438 Bool.false, AV.list Ty.str a_439 Bool.false]] [] (pack_slaves_res r) (pack_slaves_out r) := by
  refine W.con (by kernel_rfl) ?_
  unfold pack_slaves at h
  refine W.join (fun t => (Sum.elim (fun t_440 => r = (Bool.false)) (fun t_441 => Walk Go.Proofs.Tryd.prog 21 (Cfg.mk Mode.run (seqTodo Go.Proofs.Tryd.prog 21 1) (St.mk [jj, AV.ptr (0 : Nat) (0 : Nat), jj, jj, jj, jj, jj, jj, jj, jj, jj, jj, jj, jj, jj, jj, jj, jj, jj, jj, jj, jj, jj, jj, jj, jj, jj, jj, jj, jj, jj, jj, jj, jj, jj, jj, jj, jj, jj, jj, jj, jj, jj, jj, jj, jj, jj, jj, jj, jj, jj, jj, jj, jj] [AO.box [AV.int IntKind.i64 a_428, AV.str a_429, AV.str a_430, AV.str a_431, AV.int IntKind.i64 a_432, AV.int IntKind.i64 a_433, AV.int IntKind.i64 a_434, AV.int IntKind.i64 a_435, AV.bool a_436, AV.bool a_437, AV.list (Ty.prod Ty.str Ty.str) a_438 Bool.false, AV.list Ty.str a_439 Bool.false]] (0 : Nat))) (pack_slaves_res r) (pack_slaves_out r))) t) h (fun t h => ?_) (fun t469 h469 K469 => ?_)
  ·
    rcases t with t_440 | t_441
    · replace h := W.inl (h)
      refine W.elimL (?_)
      exact (Option.some.inj h).symm
    · replace h := W.inr (h)
      refine W.elimR (?_)
      refine W.at 0 100000 [] [1, 19, 20, 21] (c' := (fun (s_472 : Int) => (Cfg.mk Mode.run (headTodo Go.Proofs.Tryd.prog 21 0) (St.mk [jj, AV.ptr (0 : Nat) (0 : Nat), jj, jj, jj, jj, jj, jj, jj, jj, jj, jj, jj, jj, jj, jj, jj, jj, jj, AV.list (Ty.prod Ty.str Ty.str) a_438 Bool.false, AV.int IntKind.i64 (↑(List.length a_438) : Int), AV.int IntKind.i64 s_472, jj, jj, jj, jj, jj, jj, jj, jj, jj, jj, jj, jj, jj, jj, jj, jj, jj, jj, jj, jj, jj, jj, jj, jj, jj, jj, jj, jj, jj, jj, jj, jj] [AO.box [AV.int IntKind.i64 a_428, AV.str a_429, AV.str a_430, AV.str a_431, AV.int IntKind.i64 a_432, AV.int IntKind.i64 a_433, AV.int IntKind.i64 a_434, AV.int IntKind.i64 a_435, AV.bool a_436, AV.bool a_437, AV.list (Ty.prod Ty.str Ty.str) a_438 Bool.false, AV.list Ty.str a_439 Bool.false]] (0 : Nat)))) ((0 : Int))) (by kernel_rfl) ?_
      refine W.loop (fun (s_472 : Int) => (Cfg.mk Mode.run (headTodo Go.Proofs.Tryd.prog 21 0) (St.mk [jj, AV.ptr (0 : Nat) (0 : Nat), jj, jj, jj, jj, jj, jj, jj, jj, jj, jj, jj, jj, jj, jj, jj, jj, jj, AV.list (Ty.prod Ty.str Ty.str) a_438 Bool.false, AV.int IntKind.i64 (↑(List.length a_438) : Int), AV.int IntKind.i64 s_472, jj, jj, jj, jj, jj, jj, jj, jj, jj, jj, jj, jj, jj, jj, jj, jj, jj, jj, jj, jj, jj, jj, jj, jj, jj, jj, jj, jj, jj, jj, jj, jj] [AO.box [AV.int IntKind.i64 a_428, AV.str a_429, AV.str a_430, AV.str a_431, AV.int IntKind.i64 a_432, AV.int IntKind.i64 a_433, AV.int IntKind.i64 a_434, AV.int IntKind.i64 a_435, AV.bool a_436, AV.bool a_437, AV.list (Ty.prod Ty.str Ty.str) a_438 Bool.false, AV.list Ty.str a_439 Bool.false]] (0 : Nat)))) (fun t => (Sum.elim (fun t_465 => r = (Bool.false)) (fun t_466 => Walk Go.Proofs.Tryd.prog 21 (Cfg.mk Mode.run ((headTodo Go.Proofs.Tryd.prog 21 0).drop 3) (St.mk [jj, jj, jj, jj, jj, jj, jj, jj, jj, jj, jj, jj, jj, jj, jj, jj, jj, jj, jj, jj, jj, jj, jj, jj, jj, jj, jj, jj, jj, jj, jj, jj, jj, jj, jj, jj, jj, jj, jj, jj, jj, jj, jj, jj, jj, jj, jj, jj, jj, jj, jj, jj, jj, jj] [] (0 : Nat))) (pack_slaves_res r) (pack_slaves_out r))) t) h (fun t h => ?_) (fun s_472 x468 h468 K468 => ?_)
      ·
        rcases t with t_465 | t_466
        · replace h := W.inl (h)
          refine W.elimL (?_)
          exact (Option.some.inj h).symm
        · replace h := W.inr (h)
          refine W.elimR (?_)
          exact W.retT 0 100000 h (by kernel_rfl)
      · unfold pack_slaves_b0 at h468
        refine W.cond 2 100000 h468 (by kernel_rfl) (fun h468 => ?_) (fun h468 => ?_)
        ·
          refine W.needT 2 100000 h468 (by kernel_rfl) (fun h468 => ?_)
          refine W.bind h468 fun a_462 ha_462 h468 => ?_
          refine W.call 2 100000 (by kernel_rfl) (pack_name_con ha_462) (by kernel_rfl) ?_
          refine W.cond 2 100000 h468 (by kernel_rfl) (fun h468 => ?_) (fun h468 => ?_)
          ·
            refine W.yes 2 100000 (by kernel_rfl) ?_
            refine W.yes 2 100000 (by kernel_rfl) ?_
            refine W.yes 2 100000 (by kernel_rfl) ?_
            refine W.yes 2 100000 (by kernel_rfl) ?_
            refine W.yes 2 100000 (by kernel_rfl) ?_
            refine W.yes 2 100000 (by kernel_rfl) ?_
            refine W.yes 2 100000 (by kernel_rfl) ?_
            refine W.yes 2 100000 (by kernel_rfl) ?_
            refine W.yes 2 100000 (by kernel_rfl) ?_
            refine W.yes 2 100000 (by kernel_rfl) ?_
            refine W.yes 2 100000 (by kernel_rfl) ?_
            refine W.yes 2 100000 (by kernel_rfl) ?_
            refine W.yes 2 100000 (by kernel_rfl) ?_
            refine W.yes 2 100000 (by kernel_rfl) ?_
            cases h468; exact W.retK 2 100000 K468 (by kernel_rfl)
          ·
            refine W.no 2 100000 (by kernel_rfl) ?_
            refine W.no 2 100000 (by kernel_rfl) ?_
            refine W.bind h468 fun a_463 ha_463 h468 => ?_
            refine W.call 2 100000 (by kernel_rfl) (pack_link_con ha_463) (by kernel_rfl) ?_
            refine W.no 2 100000 (by kernel_rfl) ?_
            refine W.no 2 100000 (by kernel_rfl) ?_
            refine W.cond 2 100000 h468 (by kernel_rfl) (fun h468 => ?_) (fun h468 => ?_)
            ·
              refine W.yes 2 100000 (by kernel_rfl) ?_
              refine W.yes 2 100000 (by kernel_rfl) ?_
              refine W.yes 2 100000 (by kernel_rfl) ?_
              refine W.yes 2 100000 (by kernel_rfl) ?_
              refine W.yes 2 100000 (by kernel_rfl) ?_
              refine W.yes 2 100000 (by kernel_rfl) ?_
              refine W.yes 2 100000 (by kernel_rfl) ?_
              refine W.yes 2 100000 (by kernel_rfl) ?_
              refine W.yes 2 100000 (by kernel_rfl) ?_
              cases h468; exact W.retK 2 100000 K468 (by kernel_rfl)
            ·
              refine W.no 2 100000 (by kernel_rfl) ?_
              refine W.no 2 100000 (by kernel_rfl) ?_
              refine W.no 2 100000 (by kernel_rfl) ?_
              refine W.needT 2 100000 h468 (by kernel_rfl) (fun h468 => ?_)
              refine W.no 2 100000 (by kernel_rfl) ?_
              refine W.no 2 100000 (by kernel_rfl) ?_
              refine W.no 2 100000 (by kernel_rfl) ?_
              refine W.cond 2 100000 h468 (by kernel_rfl) (fun h468 => ?_) (fun h468 => ?_)
              ·
                refine W.yes 2 100000 (by kernel_rfl) ?_
                refine W.yes 2 100000 (by kernel_rfl) ?_
                refine W.yes 2 100000 (by kernel_rfl) ?_
                refine W.needT 2 100000 h468 (by kernel_rfl) (fun h468 => ?_)
                refine W.yes 2 100000 (by kernel_rfl) ?_
                refine W.yes 2 100000 (by kernel_rfl) ?_
                refine W.bind h468 fun a_464 ha_464 h468 => ?_
                refine W.call 2 100000 (by kernel_rfl) (pack_place_con ha_464) (by kernel_rfl) ?_
                refine W.yes 2 100000 (by kernel_rfl) ?_
                refine W.no 2 100000 (by kernel_rfl) ?_
                refine W.yes 2 100000 (by kernel_rfl) ?_
                refine W.no 2 100000 (by kernel_rfl) ?_
                refine W.cond 2 100000 h468 (by kernel_rfl) (fun h468 => ?_) (fun h468 => ?_)
                ·
                  cases h468; exact W.retK 2 100000 K468 (by kernel_rfl)
                ·
                  cases h468; exact W.at 2 100000 [] [1, 19, 20, 21] (by kernel_rfl) K468
              ·
                refine W.no 2 100000 (by kernel_rfl) ?_
                refine W.no 2 100000 (by kernel_rfl) ?_
                refine W.no 2 100000 (by kernel_rfl) ?_
                refine W.no 2 100000 (by kernel_rfl) ?_
                refine W.no 2 100000 (by kernel_rfl) ?_
                refine W.no 2 100000 (by kernel_rfl) ?_
                refine W.no 2 100000 (by kernel_rfl) ?_
                refine W.no 2 100000 (by kernel_rfl) ?_
                refine W.no 2 100000 (by kernel_rfl) ?_
                refine W.no 2 100000 (by kernel_rfl) ?_
                cases h468; exact W.at 2 100000 [] [1, 19, 20, 21] (by kernel_rfl) K468
        ·
          cases h468; exact W.at 2 100000 [] [] (by kernel_rfl) K468
  · refine W.next 0 6 (by kernel_rfl) ?_
    refine W.cond 1 100000 h469 (by kernel_rfl) (fun h469 => ?_) (fun h469 => ?_)
    ·
      refine W.yes 1 100000 (by kernel_rfl) ?_
      refine W.yes 1 100000 (by kernel_rfl) ?_
      refine W.yes 1 100000 (by kernel_rfl) ?_
      refine W.yes 1 100000 (by kernel_rfl) ?_
      refine W.yes 1 100000 (by kernel_rfl) ?_
      cases h469; exact W.retK 1 100000 K469 (by kernel_rfl)
    ·
      refine W.no 1 100000 (by kernel_rfl) ?_
      refine W.no 1 100000 (by kernel_rfl) ?_
      refine W.no 1 100000 (by kernel_rfl) ?_
      refine W.no 1 100000 (by kernel_rfl) ?_
      refine W.cond 1 100000 h469 (by kernel_rfl) (fun h469 => ?_) (fun h469 => ?_)
      ·
        cases h469; exact W.retK 1 100000 K469 (by kernel_rfl)
      ·
        cases h469; exact W.at 1 100000 [] [1] (by kernel_rfl) K469

theorem status_Trigger_con {s_475 : List UInt8} {r : Bool} (h : status_Trigger s_475 = some r) : Con Go.Proofs.Tryd.prog 23 [AV.str s_475] [] (status_Trigger_res r) (status_Trigger_out r) := by
  refine W.con (by kernel_rfl) ?_
  unfold status_Trigger at h
  refine W.bind h fun a_476 ha_476 h => ?_
  refine W.call 0 100000 (by kernel_rfl) (path_Name_con ha_476) (by kernel_rfl) ?_
  refine W.cond 0 100000 h (by kernel_rfl) (fun h => ?_) (fun h => ?_)
  ·
    refine W.yes 0 100000 (by kernel_rfl) ?_
    refine W.yes 0 100000 (by kernel_rfl) ?_
    exact W.retT 0 100000 h (by kernel_rfl)
  ·
    refine W.no 0 100000 (by kernel_rfl) ?_
    refine W.bind h fun a_477 ha_477 h => ?_
    refine W.call 0 100000 (by kernel_rfl) (path_Right_con ha_477) (by kernel_rfl) ?_
    refine W.no 0 100000 (by kernel_rfl) ?_
    exact W.retT 0 100000 h (by kernel_rfl)

theorem cellarerref19_Reserved_con {p_483 : List UInt8} {r : Bool} (h : cellarerref19_Reserved p_483 = some r) : Con Go.Proofs.Tryd.prog 7 [AV.str p_483] [] (cellarerref19_Reserved_res r) (cellarerref19_Reserved_out r) := by
  refine W.con (by kernel_rfl) ?_
  unfold cellarerref19_Reserved at h
  refine W.cond 0 100000 h (by kernel_rfl) (fun h => ?_) (fun h => ?_)
  ·
    refine W.yes 0 100000 (by kernel_rfl) ?_
    refine W.yes 0 100000 (by kernel_rfl) ?_
    refine W.yes 0 100000 (by kernel_rfl) ?_
    refine W.yes 0 100000 (by kernel_rfl) ?_
    refine W.yes 0 100000 (by kernel_rfl) ?_
    refine W.yes 0 100000 (by kernel_rfl) ?_
    refine W.yes 0 100000 (by kernel_rfl) ?_
    refine W.yes 0 100000 (by kernel_rfl) ?_
    refine W.yes 0 100000 (by kernel_rfl) ?_
    refine W.yes 0 100000 (by kernel_rfl) ?_
    refine W.yes 0 100000 (by kernel_rfl) ?_
    refine W.yes 0 100000 (by kernel_rfl) ?_
    refine W.yes 0 100000 (by kernel_rfl) ?_
    refine W.yes 0 100000 (by kernel_rfl) ?_
    refine W.yes 0 100000 (by kernel_rfl) ?_
    refine W.yes 0 100000 (by kernel_rfl) ?_
    refine W.yes 0 100000 (by kernel_rfl) ?_
    refine W.yes 0 100000 (by kernel_rfl) ?_
    refine W.yes 0 100000 (by kernel_rfl) ?_
    refine W.yes 0 100000 (by kernel_rfl) ?_
    exact W.retT 0 100000 h (by kernel_rfl)
  ·
    refine W.no 0 100000 (by kernel_rfl) ?_
    refine W.no 0 100000 (by kernel_rfl) ?_
    refine W.no 0 100000 (by kernel_rfl) ?_
    refine W.cond 0 100000 h (by kernel_rfl) (fun h => ?_) (fun h => ?_)
    ·
      refine W.yes 0 100000 (by kernel_rfl) ?_
      refine W.yes 0 100000 (by kernel_rfl) ?_
      refine W.yes 0 100000 (by kernel_rfl) ?_
      refine W.yes 0 100000 (by kernel_rfl) ?_
      refine W.yes 0 100000 (by kernel_rfl) ?_
      refine W.yes 0 100000 (by kernel_rfl) ?_
      refine W.yes 0 100000 (by kernel_rfl) ?_
      refine W.yes 0 100000 (by kernel_rfl) ?_
      refine W.yes 0 100000 (by kernel_rfl) ?_
      refine W.yes 0 100000 (by kernel_rfl) ?_
      refine W.yes 0 100000 (by kernel_rfl) ?_
      refine W.yes 0 100000 (by kernel_rfl) ?_
      refine W.yes 0 100000 (by kernel_rfl) ?_
      refine W.yes 0 100000 (by kernel_rfl) ?_
      refine W.yes 0 100000 (by kernel_rfl) ?_
      refine W.yes 0 100000 (by kernel_rfl) ?_
      exact W.retT 0 100000 h (by kernel_rfl)
    ·
      refine W.no 0 100000 (by kernel_rfl) ?_
      refine W.no 0 100000 (by kernel_rfl) ?_
      refine W.bind h fun a_484 ha_484 h => ?_
      refine W.call 0 100000 (by kernel_rfl) (cellarerref02_Under_con ha_484) (by kernel_rfl) ?_
      refine W.no 0 100000 (by kernel_rfl) ?_
      refine W.cond 0 100000 h (by kernel_rfl) (fun h => ?_) (fun h => ?_)
      ·
        refine W.yes 0 100000 (by kernel_rfl) ?_
        refine W.yes 0 100000 (by kernel_rfl) ?_
        refine W.yes 0 100000 (by kernel_rfl) ?_
        refine W.yes 0 100000 (by kernel_rfl) ?_
        refine W.yes 0 100000 (by kernel_rfl) ?_
        refine W.yes 0 100000 (by kernel_rfl) ?_
        refine W.yes 0 100000 (by kernel_rfl) ?_
        refine W.yes 0 100000 (by kernel_rfl) ?_
        refine W.yes 0 100000 (by kernel_rfl) ?_
        refine W.yes 0 100000 (by kernel_rfl) ?_
        refine W.yes 0 100000 (by kernel_rfl) ?_
        refine W.yes 0 100000 (by kernel_rfl) ?_
        exact W.retT 0 100000 h (by kernel_rfl)
      ·
        refine W.no 0 100000 (by kernel_rfl) ?_
        refine W.no 0 100000 (by kernel_rfl) ?_
        refine W.bind h fun a_485 ha_485 h => ?_
        refine W.call 0 100000 (by kernel_rfl) (cellarerref02_Under_con ha_485) (by kernel_rfl) ?_
        refine W.no 0 100000 (by kernel_rfl) ?_
        refine W.cond 0 100000 h (by kernel_rfl) (fun h => ?_) (fun h => ?_)
        ·
          refine W.yes 0 100000 (by kernel_rfl) ?_
          refine W.yes 0 100000 (by kernel_rfl) ?_
          refine W.yes 0 100000 (by kernel_rfl) ?_
          refine W.yes 0 100000 (by kernel_rfl) ?_
          refine W.yes 0 100000 (by kernel_rfl) ?_
          refine W.yes 0 100000 (by kernel_rfl) ?_
          refine W.yes 0 100000 (by kernel_rfl) ?_
          refine W.yes 0 100000 (by kernel_rfl) ?_
          exact W.retT 0 100000 h (by kernel_rfl)
        ·
          refine W.no 0 100000 (by kernel_rfl) ?_
          refine W.bind h fun a_486 ha_486 h => ?_
          refine W.call 0 100000 (by kernel_rfl) (cellarerref19_Ends_con ha_486) (by kernel_rfl) ?_
          refine W.no 0 100000 (by kernel_rfl) ?_
          refine W.cond 0 100000 h (by kernel_rfl) (fun h => ?_) (fun h => ?_)
          ·
            refine W.yes 0 100000 (by kernel_rfl) ?_
            refine W.yes 0 100000 (by kernel_rfl) ?_
            refine W.yes 0 100000 (by kernel_rfl) ?_
            refine W.yes 0 100000 (by kernel_rfl) ?_
            refine W.yes 0 100000 (by kernel_rfl) ?_
            exact W.retT 0 100000 h (by kernel_rfl)
          ·
            refine W.no 0 100000 (by kernel_rfl) ?_
            refine W.bind h fun a_487 ha_487 h => ?_
            refine W.call 0 100000 (by kernel_rfl) (cellarerref19_Ends_con ha_487) (by kernel_rfl) ?_
            refine W.no 0 100000 (by kernel_rfl) ?_
            refine W.cond 0 100000 h (by kernel_rfl) (fun h => ?_) (fun h => ?_)
            ·
              refine W.yes 0 100000 (by kernel_rfl) ?_
              refine W.yes 0 100000 (by kernel_rfl) ?_
              exact W.retT 0 100000 h (by kernel_rfl)
            ·
              refine W.no 0 100000 (by kernel_rfl) ?_
              refine W.bind h fun a_488 ha_488 h => ?_
              refine W.call 0 100000 (by kernel_rfl) (cellarerref19_Ends_con ha_488) (by kernel_rfl) ?_
              refine W.no 0 100000 (by kernel_rfl) ?_
              exact W.retT 0 100000 h (by kernel_rfl)

theorem cellarerref19_Place_con {p_481 : List UInt8} {r : Bool} (h : cellarerref19_Place p_481 = some r) : Con Go.Proofs.Tryd.prog 25 [AV.str p_481] [] (cellarerref19_Place_res r) (cellarerref19_Place_out r) := by
  refine W.con (by kernel_rfl) ?_
  unfold cellarerref19_Place at h
  refine W.bind h fun a_482 ha_482 h => ?_
  refine W.call 0 100000 (by kernel_rfl) (cellarerref02_Right_con ha_482) (by kernel_rfl) ?_
  refine W.cond 0 100000 h (by kernel_rfl) (fun h => ?_) (fun h => ?_)
  ·
    refine W.yes 0 100000 (by kernel_rfl) ?_
    refine W.yes 0 100000 (by kernel_rfl) ?_
    refine W.cond 0 100000 h (by kernel_rfl) (fun h => ?_) (fun h => ?_)
    ·
      refine W.yes 0 100000 (by kernel_rfl) ?_
      refine W.bind h fun a_491 ha_491 h => ?_
      refine W.call 0 100000 (by kernel_rfl) (cellarerref19_Reserved_con ha_491) (by kernel_rfl) ?_
      refine W.yes 0 100000 (by kernel_rfl) ?_
      refine W.yes 0 100000 (by kernel_rfl) ?_
      exact W.retT 0 100000 h (by kernel_rfl)
    ·
      refine W.no 0 100000 (by kernel_rfl) ?_
      refine W.no 0 100000 (by kernel_rfl) ?_
      refine W.no 0 100000 (by kernel_rfl) ?_
      exact W.retT 0 100000 h (by kernel_rfl)
  ·
    refine W.no 0 100000 (by kernel_rfl) ?_
    refine W.no 0 100000 (by kernel_rfl) ?_
    refine W.no 0 100000 (by kernel_rfl) ?_
    refine W.no 0 100000 (by kernel_rfl) ?_
    refine W.no 0 100000 (by kernel_rfl) ?_
    refine W.no 0 100000 (by kernel_rfl) ?_
    exact W.retT 0 100000 h (by kernel_rfl)

theorem cellarerref19_Name_con {s_495 : List UInt8} {r : Bool} (h : cellarerref19_Name s_495 = some r) : Con Go.Proofs.Tryd.prog 27 [AV.str s_495] [] (cellarerref19_Name_res r) (cellarerref19_Name_out r) := by
  refine W.con (by kernel_rfl) ?_
  unfold cellarerref19_Name at h
  refine W.bind h fun a_496 ha_496 h => ?_
  refine W.call 0 100000 (by kernel_rfl) (cellarerref02_Name_con ha_496) (by kernel_rfl) ?_
  refine W.cond 0 100000 h (by kernel_rfl) (fun h => ?_) (fun h => ?_)
  ·
    refine W.yes 0 100000 (by kernel_rfl) ?_
    refine W.bind h fun a_497 ha_497 h => ?_
    refine W.call 0 100000 (by kernel_rfl) (cellarerref19_Ends_con ha_497) (by kernel_rfl) ?_
    refine W.yes 0 100000 (by kernel_rfl) ?_
    refine W.yes 0 100000 (by kernel_rfl) ?_
    refine W.cond 0 100000 h (by kernel_rfl) (fun h => ?_) (fun h => ?_)
    ·
      refine W.yes 0 100000 (by kernel_rfl) ?_
      refine W.bind h fun a_498 ha_498 h => ?_
      refine W.call 0 100000 (by kernel_rfl) (cellarerref19_Ends_con ha_498) (by kernel_rfl) ?_
      refine W.yes 0 100000 (by kernel_rfl) ?_
      refine W.yes 0 100000 (by kernel_rfl) ?_
      refine W.cond 0 100000 h (by kernel_rfl) (fun h => ?_) (fun h => ?_)
      ·
        refine W.yes 0 100000 (by kernel_rfl) ?_
        refine W.bind h fun a_499 ha_499 h => ?_
        refine W.call 0 100000 (by kernel_rfl) (cellarerref19_Ends_con ha_499) (by kernel_rfl) ?_
        refine W.yes 0 100000 (by kernel_rfl) ?_
        refine W.yes 0 100000 (by kernel_rfl) ?_
        exact W.retT 0 100000 h (by kernel_rfl)
      ·
        refine W.no 0 100000 (by kernel_rfl) ?_
        refine W.no 0 100000 (by kernel_rfl) ?_
        refine W.no 0 100000 (by kernel_rfl) ?_
        exact W.retT 0 100000 h (by kernel_rfl)
    ·
      refine W.no 0 100000 (by kernel_rfl) ?_
      refine W.no 0 100000 (by kernel_rfl) ?_
      refine W.no 0 100000 (by kernel_rfl) ?_
      refine W.no 0 100000 (by kernel_rfl) ?_
      refine W.no 0 100000 (by kernel_rfl) ?_
      refine W.no 0 100000 (by kernel_rfl) ?_
      refine W.no 0 100000 (by kernel_rfl) ?_
      exact W.retT 0 100000 h (by kernel_rfl)
  ·
    refine W.no 0 100000 (by kernel_rfl) ?_
    refine W.no 0 100000 (by kernel_rfl) ?_
    refine W.no 0 100000 (by kernel_rfl) ?_
    refine W.no 0 100000 (by kernel_rfl) ?_
    refine W.no 0 100000 (by kernel_rfl) ?_
    refine W.no 0 100000 (by kernel_rfl) ?_
    refine W.no 0 100000 (by kernel_rfl) ?_
    refine W.no 0 100000 (by kernel_rfl) ?_
    refine W.no 0 100000 (by kernel_rfl) ?_
    refine W.no 0 100000 (by kernel_rfl) ?_
    refine W.no 0 100000 (by kernel_rfl) ?_
    exact W.retT 0 100000 h (by kernel_rfl)

theorem cellarerref19_Link_con {p_503 : List UInt8} {r : Bool} (h : cellarerref19_Link p_503 = some r) : Con Go.Proofs.Tryd.prog 28 [AV.str p_503] [] (cellarerref19_Link_res r) (cellarerref19_Link_out r) := by
  refine W.con (by kernel_rfl) ?_
  unfold cellarerref19_Link at h
  refine W.bind h fun a_504 ha_504 h => ?_
  refine W.call 0 100000 (by kernel_rfl) (cellarerref19_Place_con ha_504) (by kernel_rfl) ?_
  refine W.cond 0 100000 h (by kernel_rfl) (fun h => ?_) (fun h => ?_)
  ·
    refine W.yes 0 100000 (by kernel_rfl) ?_
    refine W.yes 0 100000 (by kernel_rfl) ?_
    refine W.yes 0 100000 (by kernel_rfl) ?_
    exact W.retT 0 100000 h (by kernel_rfl)
  ·
    refine W.no 0 100000 (by kernel_rfl) ?_
    refine W.no 0 100000 (by kernel_rfl) ?_
    refine W.no 0 100000 (by kernel_rfl) ?_
    exact W.retT 0 100000 h (by kernel_rfl)

theorem cellarerref08_Trigger_con {s_508 : List UInt8} {r : Bool} (h : cellarerref08_Trigger s_508 = some r) : Con Go.Proofs.Tryd.prog 29 [AV.str s_508] [] (cellarerref08_Trigger_res r) (cellarerref08_Trigger_out r) := by
  refine W.con (by kernel_rfl) ?_
  unfold cellarerref08_Trigger at h
  refine W.bind h fun a_509 ha_509 h => ?_
  refine W.call 0 100000 (by kernel_rfl) (cellarerref02_Name_con ha_509) (by kernel_rfl) ?_
  refine W.cond 0 100000 h (by kernel_rfl) (fun h => ?_) (fun h => ?_)
  ·
    refine W.yes 0 100000 (by kernel_rfl) ?_
    refine W.yes 0 100000 (by kernel_rfl) ?_
    exact W.retT 0 100000 h (by kernel_rfl)
  ·
    refine W.no 0 100000 (by kernel_rfl) ?_
    refine W.bind h fun a_510 ha_510 h => ?_
    refine W.call 0 100000 (by kernel_rfl) (cellarerref02_Right_con ha_510) (by kernel_rfl) ?_
    refine W.no 0 100000 (by kernel_rfl) ?_
    exact W.retT 0 100000 h (by kernel_rfl)

theorem cellarerlaw11_Few_con {l_516 : List (List UInt8 × List UInt8 × Bool × List UInt8 × List (List UInt8 × List UInt8) × List (List UInt8 × Int × List (List UInt8)))} {r : Bool} (h : cellarerlaw11_Few l_516 = some r) : Con Go.Proofs.Tryd.prog 16 [AV.list (Ty.prod Ty.str (Ty.prod Ty.str (Ty.prod Ty.bool (Ty.prod Ty.str (Ty.prod (Ty.list (Ty.prod Ty.str Ty.str)) (Ty.list (Ty.prod Ty.str (Ty.prod (Ty.int IntKind.i64) (Ty.list Ty.str))))))))) l_516 Bool.false] [] (cellarerlaw11_Few_res r) (cellarerlaw11_Few_out r) := by
  refine W.con (by kernel_rfl) ?_
  unfold cellarerlaw11_Few at h
  refine W.cond 0 100000 h (by kernel_rfl) (fun h => ?_) (fun h => ?_)
  ·
    exact W.retT 0 100000 h (by kernel_rfl)
  ·
    refine W.at 0 100000 [] [0, 3, 4] (c' := (fun (s_577 : Int × Int) => (Cfg.mk Mode.run (headTodo Go.Proofs.Tryd.prog 16 0) (St.mk [AV.list (Ty.prod Ty.str (Ty.prod Ty.str (Ty.prod Ty.bool (Ty.prod Ty.str (Ty.prod (Ty.list (Ty.prod Ty.str Ty.str)) (Ty.list (Ty.prod Ty.str (Ty.prod (Ty.int IntKind.i64) (Ty.list Ty.str))))))))) l_516 Bool.false, jj, jj, AV.int IntKind.i64 (Prod.fst s_577), AV.int IntKind.i64 (Prod.snd s_577), jj, jj, jj, jj, jj, jj, jj, jj, jj, jj, jj, jj, jj, jj, jj, jj, jj, jj, jj, jj, jj, jj, jj, jj, jj, jj, jj, jj, jj, jj, jj, jj, jj, jj, jj, jj, jj, jj, jj, jj, jj, jj, jj, jj, jj, jj, jj, jj, jj, jj, jj, jj, jj, jj, jj, jj, jj, jj, jj, jj, jj, jj, jj, jj, jj, jj, jj, jj, jj, jj, jj, jj, jj, jj, jj, jj, jj, jj, jj, jj, jj, jj, jj, jj, jj, jj, jj, jj, jj, jj, jj, jj, jj, jj, jj, jj, jj, jj, jj, jj, jj, jj, jj, jj, jj, jj, jj, jj, jj, jj, jj, jj, jj, jj, jj, jj, jj, jj, jj, jj, jj, jj, jj, jj, jj, jj, jj, jj, jj, jj, jj, jj, jj] [] (0 : Nat)))) ((0 : Int), (0 : Int))) (by kernel_rfl) ?_
    refine W.loop (fun (s_577 : Int × Int) => (Cfg.mk Mode.run (headTodo Go.Proofs.Tryd.prog 16 0) (St.mk [AV.list (Ty.prod Ty.str (Ty.prod Ty.str (Ty.prod Ty.bool (Ty.prod Ty.str (Ty.prod (Ty.list (Ty.prod Ty.str Ty.str)) (Ty.list (Ty.prod Ty.str (Ty.prod (Ty.int IntKind.i64) (Ty.list Ty.str))))))))) l_516 Bool.false, jj, jj, AV.int IntKind.i64 (Prod.fst s_577), AV.int IntKind.i64 (Prod.snd s_577), jj, jj, jj, jj, jj, jj, jj, jj, jj, jj, jj, jj, jj, jj, jj, jj, jj, jj, jj, jj, jj, jj, jj, jj, jj, jj, jj, jj, jj, jj, jj, jj, jj, jj, jj, jj, jj, jj, jj, jj, jj, jj, jj, jj, jj, jj, jj, jj, jj, jj, jj, jj, jj, jj, jj, jj, jj, jj, jj, jj, jj, jj, jj, jj, jj, jj, jj, jj, jj, jj, jj, jj, jj, jj, jj, jj, jj, jj, jj, jj, jj, jj, jj, jj, jj, jj, jj, jj, jj, jj, jj, jj, jj, jj, jj, jj, jj, jj, jj, jj, jj, jj, jj, jj, jj, jj, jj, jj, jj, jj, jj, jj, jj, jj, jj, jj, jj, jj, jj, jj, jj, jj, jj, jj, jj, jj, jj, jj, jj, jj, jj, jj, jj] [] (0 : Nat)))) (fun t => (Sum.elim (fun t_568 => r = (Bool.false)) (fun t_569 => Walk Go.Proofs.Tryd.prog 16 (Cfg.mk Mode.run ((headTodo Go.Proofs.Tryd.prog 16 0).drop 3) (St.mk [jj, jj, jj, jj, jj, jj, jj, jj, jj, jj, jj, jj, jj, jj, jj, jj, jj, jj, jj, jj, jj, jj, jj, jj, jj, jj, jj, jj, jj, jj, jj, jj, jj, jj, jj, jj, jj, jj, jj, jj, jj, jj, jj, jj, jj, jj, jj, jj, jj, jj, jj, jj, jj, jj, jj, jj, jj, jj, jj, jj, jj, jj, jj, jj, jj, jj, jj, jj, jj, jj, jj, jj, jj, jj, jj, jj, jj, jj, jj, jj, jj, jj, jj, jj, jj, jj, jj, jj, jj, jj, jj, jj, jj, jj, jj, jj, jj, jj, jj, jj, jj, jj, jj, jj, jj, jj, jj, jj, jj, jj, jj, jj, jj, jj, jj, jj, jj, jj, jj, jj, jj, jj, jj, jj, jj, jj, jj, jj, jj, jj, jj, jj, jj, jj, jj, jj, jj, jj] [] (0 : Nat))) (cellarerlaw11_Few_res r) (cellarerlaw11_Few_out r))) t) h (fun t h => ?_) (fun s_577 x571 h571 K571 => ?_)
    ·
      rcases t with t_568 | t_569
      · replace h := W.inl (h)
        refine W.elimL (?_)
        exact (Option.some.inj h).symm
      · replace h := W.inr (h)
        refine W.elimR (?_)
        exact W.retT 0 100000 h (by kernel_rfl)
    · unfold cellarerlaw11_Few_b3 at h571
      refine W.cond 2 100000 h571 (by kernel_rfl) (fun h571 => ?_) (fun h571 => ?_)
      ·
        refine W.needT 2 100000 h571 (by kernel_rfl) (fun h571 => ?_)
        refine W.join (fun t => (Sum.elim (fun t_520 => r = (Bool.false)) (fun t_521 => Walk Go.Proofs.Tryd.prog 16 (Cfg.mk Mode.run (seqTodo Go.Proofs.Tryd.prog 16 11) (St.mk [AV.list (Ty.prod Ty.str (Ty.prod Ty.str (Ty.prod Ty.bool (Ty.prod Ty.str (Ty.prod (Ty.list (Ty.prod Ty.str Ty.str)) (Ty.list (Ty.prod Ty.str (Ty.prod (Ty.int IntKind.i64) (Ty.list Ty.str))))))))) l_516 Bool.false, jj, jj, AV.int IntKind.i64 (Prod.fst s_577), AV.int IntKind.i64 (Prod.snd s_577), AV.ptr (0 : Nat) (0 : Nat), jj, jj, jj, jj, jj, jj, jj, jj, jj, jj, jj, jj, jj, jj, jj, jj, jj, jj, jj, jj, jj, jj, jj, jj, jj, jj, jj, jj, jj, jj, jj, jj, jj, jj, jj, jj, jj, jj, jj, jj, jj, jj, jj, jj, jj, jj, jj, jj, jj, jj, jj, jj, jj, jj, jj, jj, jj, jj, jj, jj, jj, jj, jj, jj, jj, jj, jj, jj, jj, jj, jj, jj, jj, jj, jj, jj, jj, jj, jj, jj, jj, jj, jj, jj, jj, jj, jj, jj, jj, jj, jj, jj, jj, jj, jj, jj, jj, jj, jj, jj, jj, jj, jj, jj, jj, jj, jj, jj, jj, jj, jj, jj, jj, jj, jj, jj, jj, jj, jj, jj, jj, jj, jj, jj, jj, jj, jj, jj, jj, jj, jj, jj] [AO.box [AV.str (Prod.fst (List.getD l_516 (Int.toNat (Prod.snd s_577)) ([], [], Bool.false, [], [], []))), AV.str (Prod.fst (Prod.snd (List.getD l_516 (Int.toNat (Prod.snd s_577)) ([], [], Bool.false, [], [], [])))), AV.bool (Prod.fst (Prod.snd (Prod.snd (List.getD l_516 (Int.toNat (Prod.snd s_577)) ([], [], Bool.false, [], [], []))))), AV.str (Prod.fst (Prod.snd (Prod.snd (Prod.snd (List.getD l_516 (Int.toNat (Prod.snd s_577)) ([], [], Bool.false, [], [], [])))))), AV.list (Ty.prod Ty.str Ty.str) (Prod.fst (Prod.snd (Prod.snd (Prod.snd (Prod.snd (List.getD l_516 (Int.toNat (Prod.snd s_577)) ([], [], Bool.false, [], [], []))))))) Bool.false, AV.list (Ty.prod Ty.str (Ty.prod (Ty.int IntKind.i64) (Ty.list Ty.str))) (Prod.snd (Prod.snd (Prod.snd (Prod.snd (Prod.snd (List.getD l_516 (Int.toNat (Prod.snd s_577)) ([], [], Bool.false, [], [], []))))))) Bool.false]] (0 : Nat))) (cellarerlaw11_Few_res r) (cellarerlaw11_Few_out r))) t) h571 (fun t h571 => ?_) (fun t568 h568 K568 => ?_)
        ·
          rcases t with t_520 | t_521
          · replace h571 := W.inl (h571)
            refine W.elimL (?_)
            cases h571; exact K571
          · replace h571 := W.inr (h571)
            refine W.elimR (?_)
            refine W.at 2 100000 [] [0, 3, 4, 5, 6] (c' := (fun (s_578 : Int) => (Cfg.mk Mode.run (headTodo Go.Proofs.Tryd.prog 16 1) (St.mk [AV.list (Ty.prod Ty.str (Ty.prod Ty.str (Ty.prod Ty.bool (Ty.prod Ty.str (Ty.prod (Ty.list (Ty.prod Ty.str Ty.str)) (Ty.list (Ty.prod Ty.str (Ty.prod (Ty.int IntKind.i64) (Ty.list Ty.str))))))))) l_516 Bool.false, jj, jj, AV.int IntKind.i64 (Prod.fst s_577), AV.int IntKind.i64 (Prod.snd s_577), AV.ptr (0 : Nat) (0 : Nat), AV.int IntKind.i64 s_578, jj, jj, jj, jj, jj, jj, jj, jj, jj, jj, jj, jj, jj, jj, jj, jj, jj, jj, jj, jj, jj, jj, jj, jj, jj, jj, jj, jj, jj, jj, jj, jj, jj, jj, jj, jj, jj, jj, jj, jj, jj, jj, jj, jj, jj, jj, jj, jj, jj, jj, jj, jj, jj, jj, jj, jj, jj, jj, jj, jj, jj, jj, jj, jj, jj, jj, jj, jj, jj, jj, jj, jj, jj, jj, jj, jj, jj, jj, jj, jj, jj, jj, jj, jj, jj, jj, jj, jj, jj, jj, jj, jj, jj, jj, jj, jj, jj, jj, jj, jj, jj, jj, jj, jj, jj, jj, jj, jj, jj, jj, jj, jj, jj, jj, jj, jj, jj, jj, jj, jj, jj, jj, jj, jj, jj, jj, jj, jj, jj, jj, jj] [AO.box [AV.str (Prod.fst (List.getD l_516 (Int.toNat (Prod.snd s_577)) ([], [], Bool.false, [], [], []))), AV.str (Prod.fst (Prod.snd (List.getD l_516 (Int.toNat (Prod.snd s_577)) ([], [], Bool.false, [], [], [])))), AV.bool (Prod.fst (Prod.snd (Prod.snd (List.getD l_516 (Int.toNat (Prod.snd s_577)) ([], [], Bool.false, [], [], []))))), AV.str (Prod.fst (Prod.snd (Prod.snd (Prod.snd (List.getD l_516 (Int.toNat (Prod.snd s_577)) ([], [], Bool.false, [], [], [])))))), AV.list (Ty.prod Ty.str Ty.str) (Prod.fst (Prod.snd (Prod.snd (Prod.snd (Prod.snd (List.getD l_516 (Int.toNat (Prod.snd s_577)) ([], [], Bool.false, [], [], []))))))) Bool.false, AV.list (Ty.prod Ty.str (Ty.prod (Ty.int IntKind.i64) (Ty.list Ty.str))) (Prod.snd (Prod.snd (Prod.snd (Prod.snd (Prod.snd (List.getD l_516 (Int.toNat (Prod.snd s_577)) ([], [], Bool.false, [], [], []))))))) Bool.false]] (0 : Nat)))) ((0 : Int))) (by kernel_rfl) ?_
            refine W.loop (fun (s_578 : Int) => (Cfg.mk Mode.run (headTodo Go.Proofs.Tryd.prog 16 1) (St.mk [AV.list (Ty.prod Ty.str (Ty.prod Ty.str (Ty.prod Ty.bool (Ty.prod Ty.str (Ty.prod (Ty.list (Ty.prod Ty.str Ty.str)) (Ty.list (Ty.prod Ty.str (Ty.prod (Ty.int IntKind.i64) (Ty.list Ty.str))))))))) l_516 Bool.false, jj, jj, AV.int IntKind.i64 (Prod.fst s_577), AV.int IntKind.i64 (Prod.snd s_577), AV.ptr (0 : Nat) (0 : Nat), AV.int IntKind.i64 s_578, jj, jj, jj, jj, jj, jj, jj, jj, jj, jj, jj, jj, jj, jj, jj, jj, jj, jj, jj, jj, jj, jj, jj, jj, jj, jj, jj, jj, jj, jj, jj, jj, jj, jj, jj, jj, jj, jj, jj, jj, jj, jj, jj, jj, jj, jj, jj, jj, jj, jj, jj, jj, jj, jj, jj, jj, jj, jj, jj, jj, jj, jj, jj, jj, jj, jj, jj, jj, jj, jj, jj, jj, jj, jj, jj, jj, jj, jj, jj, jj, jj, jj, jj, jj, jj, jj, jj, jj, jj, jj, jj, jj, jj, jj, jj, jj, jj, jj, jj, jj, jj, jj, jj, jj, jj, jj, jj, jj, jj, jj, jj, jj, jj, jj, jj, jj, jj, jj, jj, jj, jj, jj, jj, jj, jj, jj, jj, jj, jj, jj, jj] [AO.box [AV.str (Prod.fst (List.getD l_516 (Int.toNat (Prod.snd s_577)) ([], [], Bool.false, [], [], []))), AV.str (Prod.fst (Prod.snd (List.getD l_516 (Int.toNat (Prod.snd s_577)) ([], [], Bool.false, [], [], [])))), AV.bool (Prod.fst (Prod.snd (Prod.snd (List.getD l_516 (Int.toNat (Prod.snd s_577)) ([], [], Bool.false, [], [], []))))), AV.str (Prod.fst (Prod.snd (Prod.snd (Prod.snd (List.getD l_516 (Int.toNat (Prod.snd s_577)) ([], [], Bool.false, [], [], [])))))), AV.list (Ty.prod Ty.str Ty.str) (Prod.fst (Prod.snd (Prod.snd (Prod.snd (Prod.snd (List.getD l_516 (Int.toNat (Prod.snd s_577)) ([], [], Bool.false, [], [], []))))))) Bool.false, AV.list (Ty.prod Ty.str (Ty.prod (Ty.int IntKind.i64) (Ty.list Ty.str))) (Prod.snd (Prod.snd (Prod.snd (Prod.snd (Prod.snd (List.getD l_516 (Int.toNat (Prod.snd s_577)) ([], [], Bool.false, [], [], []))))))) Bool.false]] (0 : Nat)))) (fun t => (Sum.elim (fun t_532 => r = (Bool.false)) (fun t_533 => Walk Go.Proofs.Tryd.prog 16 (Cfg.mk Mode.run ((headTodo Go.Proofs.Tryd.prog 16 1).drop 3) (St.mk [AV.list (Ty.prod Ty.str (Ty.prod Ty.str (Ty.prod Ty.bool (Ty.prod Ty.str (Ty.prod (Ty.list (Ty.prod Ty.str Ty.str)) (Ty.list (Ty.prod Ty.str (Ty.prod (Ty.int IntKind.i64) (Ty.list Ty.str))))))))) l_516 Bool.false, jj, jj, AV.int IntKind.i64 (Prod.fst s_577), AV.int IntKind.i64 (Prod.snd s_577), AV.ptr (0 : Nat) (0 : Nat), jj, jj, jj, jj, jj, jj, jj, jj, jj, jj, jj, jj, jj, jj, jj, jj, jj, jj, jj, jj, jj, jj, jj, jj, jj, jj, jj, jj, jj, jj, jj, jj, jj, jj, jj, jj, jj, jj, jj, jj, jj, jj, jj, jj, jj, jj, jj, jj, jj, jj, jj, jj, jj, jj, jj, jj, jj, jj, jj, jj, jj, jj, jj, jj, jj, jj, jj, jj, jj, jj, jj, jj, jj, jj, jj, jj, jj, jj, jj, jj, jj, jj, jj, jj, jj, jj, jj, jj, jj, jj, jj, jj, jj, jj, jj, jj, jj, jj, jj, jj, jj, jj, jj, jj, jj, jj, jj, jj, jj, jj, jj, jj, jj, jj, jj, jj, jj, jj, jj, jj, jj, jj, jj, jj, jj, jj, jj, jj, jj, jj, jj, jj] [AO.box [AV.str (Prod.fst (List.getD l_516 (Int.toNat (Prod.snd s_577)) ([], [], Bool.false, [], [], []))), AV.str (Prod.fst (Prod.snd (List.getD l_516 (Int.toNat (Prod.snd s_577)) ([], [], Bool.false, [], [], [])))), AV.bool (Prod.fst (Prod.snd (Prod.snd (List.getD l_516 (Int.toNat (Prod.snd s_577)) ([], [], Bool.false, [], [], []))))), AV.str (Prod.fst (Prod.snd (Prod.snd (Prod.snd (List.getD l_516 (Int.toNat (Prod.snd s_577)) ([], [], Bool.false, [], [], [])))))), AV.list (Ty.prod Ty.str Ty.str) (Prod.fst (Prod.snd (Prod.snd (Prod.snd (Prod.snd (List.getD l_516 (Int.toNat (Prod.snd s_577)) ([], [], Bool.false, [], [], []))))))) Bool.false, AV.list (Ty.prod Ty.str (Ty.prod (Ty.int IntKind.i64) (Ty.list Ty.str))) (Prod.snd (Prod.snd (Prod.snd (Prod.snd (Prod.snd (List.getD l_516 (Int.toNat (Prod.snd s_577)) ([], [], Bool.false, [], [], []))))))) Bool.false]] (0 : Nat))) (cellarerlaw11_Few_res r) (cellarerlaw11_Few_out r))) t) h571 (fun t h571 => ?_) (fun s_578 x567 h567 K567 => ?_)
            ·
              rcases t with t_532 | t_533
              · replace h571 := W.inl (h571)
                refine W.elimL (?_)
                cases h571; exact K571
              · replace h571 := W.inr (h571)
                refine W.elimR (?_)
                refine W.at 2 100000 [] [0, 3, 4, 5, 7] (c' := (fun (s_579 : Int × Int) => (Cfg.mk Mode.run (headTodo Go.Proofs.Tryd.prog 16 2) (St.mk [AV.list (Ty.prod Ty.str (Ty.prod Ty.str (Ty.prod Ty.bool (Ty.prod Ty.str (Ty.prod (Ty.list (Ty.prod Ty.str Ty.str)) (Ty.list (Ty.prod Ty.str (Ty.prod (Ty.int IntKind.i64) (Ty.list Ty.str))))))))) l_516 Bool.false, jj, jj, AV.int IntKind.i64 (Prod.fst s_579), AV.int IntKind.i64 (Prod.snd s_577), AV.ptr (0 : Nat) (0 : Nat), jj, AV.int IntKind.i64 (Prod.snd s_579), jj, jj, jj, jj, jj, jj, jj, jj, jj, jj, jj, jj, jj, jj, jj, jj, jj, jj, jj, jj, jj, jj, jj, jj, jj, jj, jj, jj, jj, jj, jj, jj, jj, jj, jj, jj, jj, jj, jj, jj, jj, jj, jj, jj, jj, jj, jj, jj, jj, jj, jj, jj, jj, jj, jj, jj, jj, jj, jj, jj, jj, jj, jj, jj, jj, jj, jj, jj, jj, jj, jj, jj, jj, jj, jj, jj, jj, jj, jj, jj, jj, jj, jj, jj, jj, jj, jj, jj, jj, jj, jj, jj, jj, jj, jj, jj, jj, jj, jj, jj, jj, jj, jj, jj, jj, jj, jj, jj, jj, jj, jj, jj, jj, jj, jj, jj, jj, jj, jj, jj, jj, jj, jj, jj, jj, jj, jj, jj, jj, jj] [AO.box [AV.str (Prod.fst (List.getD l_516 (Int.toNat (Prod.snd s_577)) ([], [], Bool.false, [], [], []))), AV.str (Prod.fst (Prod.snd (List.getD l_516 (Int.toNat (Prod.snd s_577)) ([], [], Bool.false, [], [], [])))), AV.bool (Prod.fst (Prod.snd (Prod.snd (List.getD l_516 (Int.toNat (Prod.snd s_577)) ([], [], Bool.false, [], [], []))))), AV.str (Prod.fst (Prod.snd (Prod.snd (Prod.snd (List.getD l_516 (Int.toNat (Prod.snd s_577)) ([], [], Bool.false, [], [], [])))))), AV.list (Ty.prod Ty.str Ty.str) (Prod.fst (Prod.snd (Prod.snd (Prod.snd (Prod.snd (List.getD l_516 (Int.toNat (Prod.snd s_577)) ([], [], Bool.false, [], [], []))))))) Bool.false, AV.list (Ty.prod Ty.str (Ty.prod (Ty.int IntKind.i64) (Ty.list Ty.str))) (Prod.snd (Prod.snd (Prod.snd (Prod.snd (Prod.snd (List.getD l_516 (Int.toNat (Prod.snd s_577)) ([], [], Bool.false, [], [], []))))))) Bool.false]] (0 : Nat)))) (Prod.fst s_577, (0 : Int))) (by kernel_rfl) ?_
                refine W.loop (fun (s_579 : Int × Int) => (Cfg.mk Mode.run (headTodo Go.Proofs.Tryd.prog 16 2) (St.mk [AV.list (Ty.prod Ty.str (Ty.prod Ty.str (Ty.prod Ty.bool (Ty.prod Ty.str (Ty.prod (Ty.list (Ty.prod Ty.str Ty.str)) (Ty.list (Ty.prod Ty.str (Ty.prod (Ty.int IntKind.i64) (Ty.list Ty.str))))))))) l_516 Bool.false, jj, jj, AV.int IntKind.i64 (Prod.fst s_579), AV.int IntKind.i64 (Prod.snd s_577), AV.ptr (0 : Nat) (0 : Nat), jj, AV.int IntKind.i64 (Prod.snd s_579), jj, jj, jj, jj, jj, jj, jj, jj, jj, jj, jj, jj, jj, jj, jj, jj, jj, jj, jj, jj, jj, jj, jj, jj, jj, jj, jj, jj, jj, jj, jj, jj, jj, jj, jj, jj, jj, jj, jj, jj, jj, jj, jj, jj, jj, jj, jj, jj, jj, jj, jj, jj, jj, jj, jj, jj, jj, jj, jj, jj, jj, jj, jj, jj, jj, jj, jj, jj, jj, jj, jj, jj, jj, jj, jj, jj, jj, jj, jj, jj, jj, jj, jj, jj, jj, jj, jj, jj, jj, jj, jj, jj, jj, jj, jj, jj, jj, jj, jj, jj, jj, jj, jj, jj, jj, jj, jj, jj, jj, jj, jj, jj, jj, jj, jj, jj, jj, jj, jj, jj, jj, jj, jj, jj, jj, jj, jj, jj, jj, jj] [AO.box [AV.str (Prod.fst (List.getD l_516 (Int.toNat (Prod.snd s_577)) ([], [], Bool.false, [], [], []))), AV.str (Prod.fst (Prod.snd (List.getD l_516 (Int.toNat (Prod.snd s_577)) ([], [], Bool.false, [], [], [])))), AV.bool (Prod.fst (Prod.snd (Prod.snd (List.getD l_516 (Int.toNat (Prod.snd s_577)) ([], [], Bool.false, [], [], []))))), AV.str (Prod.fst (Prod.snd (Prod.snd (Prod.snd (List.getD l_516 (Int.toNat (Prod.snd s_577)) ([], [], Bool.false, [], [], [])))))), AV.list (Ty.prod Ty.str Ty.str) (Prod.fst (Prod.snd (Prod.snd (Prod.snd (Prod.snd (List.getD l_516 (Int.toNat (Prod.snd s_577)) ([], [], Bool.false, [], [], []))))))) Bool.false, AV.list (Ty.prod Ty.str (Ty.prod (Ty.int IntKind.i64) (Ty.list Ty.str))) (Prod.snd (Prod.snd (Prod.snd (Prod.snd (Prod.snd (List.getD l_516 (Int.toNat (Prod.snd s_577)) ([], [], Bool.false, [], [], []))))))) Bool.false]] (0 : Nat)))) (fun t => (Sum.elim (fun t_562 => r = (Bool.false)) (fun t_564 => Walk Go.Proofs.Tryd.prog 16 (Cfg.mk Mode.run ((headTodo Go.Proofs.Tryd.prog 16 2).drop 3) (St.mk [AV.list (Ty.prod Ty.str (Ty.prod Ty.str (Ty.prod Ty.bool (Ty.prod Ty.str (Ty.prod (Ty.list (Ty.prod Ty.str Ty.str)) (Ty.list (Ty.prod Ty.str (Ty.prod (Ty.int IntKind.i64) (Ty.list Ty.str))))))))) l_516 Bool.false, jj, jj, AV.int IntKind.i64 t_564, AV.int IntKind.i64 (Prod.snd s_577), AV.ptr (0 : Nat) (0 : Nat), jj, jj, jj, jj, jj, jj, jj, jj, jj, jj, jj, jj, jj, jj, jj, jj, jj, jj, jj, jj, jj, jj, jj, jj, jj, jj, jj, jj, jj, jj, jj, jj, jj, jj, jj, jj, jj, jj, jj, jj, jj, jj, jj, jj, jj, jj, jj, jj, jj, jj, jj, jj, jj, jj, jj, jj, jj, jj, jj, jj, jj, jj, jj, jj, jj, jj, jj, jj, jj, jj, jj, jj, jj, jj, jj, jj, jj, jj, jj, jj, jj, jj, jj, jj, jj, jj, jj, jj, jj, jj, jj, jj, jj, jj, jj, jj, jj, jj, jj, jj, jj, jj, jj, jj, jj, jj, jj, jj, jj, jj, jj, jj, jj, jj, jj, jj, jj, jj, jj, jj, jj, jj, jj, jj, jj, jj, jj, jj, jj, jj, jj, jj] [AO.box [AV.str (Prod.fst (List.getD l_516 (Int.toNat (Prod.snd s_577)) ([], [], Bool.false, [], [], []))), AV.str (Prod.fst (Prod.snd (List.getD l_516 (Int.toNat (Prod.snd s_577)) ([], [], Bool.false, [], [], [])))), AV.bool (Prod.fst (Prod.snd (Prod.snd (List.getD l_516 (Int.toNat (Prod.snd s_577)) ([], [], Bool.false, [], [], []))))), AV.str (Prod.fst (Prod.snd (Prod.snd (Prod.snd (List.getD l_516 (Int.toNat (Prod.snd s_577)) ([], [], Bool.false, [], [], [])))))), AV.list (Ty.prod Ty.str Ty.str) (Prod.fst (Prod.snd (Prod.snd (Prod.snd (Prod.snd (List.getD l_516 (Int.toNat (Prod.snd s_577)) ([], [], Bool.false, [], [], []))))))) Bool.false, AV.list (Ty.prod Ty.str (Ty.prod (Ty.int IntKind.i64) (Ty.list Ty.str))) (Prod.snd (Prod.snd (Prod.snd (Prod.snd (Prod.snd (List.getD l_516 (Int.toNat (Prod.snd s_577)) ([], [], Bool.false, [], [], []))))))) Bool.false]] (0 : Nat))) (cellarerlaw11_Few_res r) (cellarerlaw11_Few_out r))) t) h571 (fun t h571 => ?_) (fun s_579 x566 h566 K566 => ?_)
                ·
                  rcases t with t_562 | t_564
                  · replace h571 := W.inl (h571)
                    refine W.elimL (?_)
                    cases h571; exact K571
                  · replace h571 := W.inr (h571)
                    refine W.elimR (?_)
                    refine W.cond 2 100000 h571 (by kernel_rfl) (fun h571 => ?_) (fun h571 => ?_)
                    ·
                      cases h571; exact W.retK 2 100000 K571 (by kernel_rfl)
                    ·
                      cases h571; exact W.at 2 100000 [] [0, 3, 4] (by kernel_rfl) K571
                · unfold cellarerlaw11_Few_b2 at h566
                  refine W.cond 7 100000 h566 (by kernel_rfl) (fun h566 => ?_) (fun h566 => ?_)
                  ·
                    refine W.join (fun t => (Sum.elim (fun t_544 => r = (Bool.false)) (fun t_545 => Walk Go.Proofs.Tryd.prog 16 (Cfg.mk Mode.run (seqTodo Go.Proofs.Tryd.prog 16 26) (St.mk [AV.list (Ty.prod Ty.str (Ty.prod Ty.str (Ty.prod Ty.bool (Ty.prod Ty.str (Ty.prod (Ty.list (Ty.prod Ty.str Ty.str)) (Ty.list (Ty.prod Ty.str (Ty.prod (Ty.int IntKind.i64) (Ty.list Ty.str))))))))) l_516 Bool.false, jj, jj, AV.int IntKind.i64 (Prod.fst s_579), AV.int IntKind.i64 (Prod.snd s_577), AV.ptr (0 : Nat) (0 : Nat), jj, AV.int IntKind.i64 (Prod.snd s_579), jj, jj, jj, jj, jj, jj, jj, jj, jj, jj, jj, jj, jj, jj, jj, jj, jj, jj, jj, jj, jj, jj, jj, jj, jj, jj, jj, jj, jj, jj, jj, jj, jj, jj, jj, jj, jj, jj, jj, jj, jj, jj, jj, jj, jj, jj, jj, jj, jj, jj, jj, jj, jj, jj, jj, jj, jj, jj, jj, jj, jj, jj, jj, jj, jj, jj, jj, jj, jj, jj, jj, jj, jj, jj, jj, jj, jj, jj, jj, jj, jj, jj, jj, jj, jj, jj, jj, jj, jj, jj, jj, jj, jj, jj, jj, jj, jj, jj, jj, jj, jj, jj, jj, jj, jj, jj, jj, jj, jj, jj, jj, jj, jj, jj, jj, jj, jj, jj, jj, jj, jj, jj, jj, jj, jj, jj, jj, jj, jj, jj] [AO.box [AV.str (Prod.fst (List.getD l_516 (Int.toNat (Prod.snd s_577)) ([], [], Bool.false, [], [], []))), AV.str (Prod.fst (Prod.snd (List.getD l_516 (Int.toNat (Prod.snd s_577)) ([], [], Bool.false, [], [], [])))), AV.bool (Prod.fst (Prod.snd (Prod.snd (List.getD l_516 (Int.toNat (Prod.snd s_577)) ([], [], Bool.false, [], [], []))))), AV.str (Prod.fst (Prod.snd (Prod.snd (Prod.snd (List.getD l_516 (Int.toNat (Prod.snd s_577)) ([], [], Bool.false, [], [], [])))))), AV.list (Ty.prod Ty.str Ty.str) (Prod.fst (Prod.snd (Prod.snd (Prod.snd (Prod.snd (List.getD l_516 (Int.toNat (Prod.snd s_577)) ([], [], Bool.false, [], [], []))))))) Bool.false, AV.list (Ty.prod Ty.str (Ty.prod (Ty.int IntKind.i64) (Ty.list Ty.str))) (Prod.snd (Prod.snd (Prod.snd (Prod.snd (Prod.snd (List.getD l_516 (Int.toNat (Prod.snd s_577)) ([], [], Bool.false, [], [], []))))))) Bool.false]] (0 : Nat))) (cellarerlaw11_Few_res r) (cellarerlaw11_Few_out r))) t) h566 (fun t h566 => ?_) (fun t562 h562 K562 => ?_)
                    ·
                      rcases t with t_544 | t_545
                      · replace h566 := W.inl (h566)
                        refine W.elimL (?_)
                        cases h566; exact K566
                      · replace h566 := W.inr (h566)
                        refine W.elimR (?_)
                        refine W.at 7 100000 [] [0, 3, 4, 5, 7, 8] (c' := (fun (s_580 : Int × Int) => (Cfg.mk Mode.run (headTodo Go.Proofs.Tryd.prog 16 3) (St.mk [AV.list (Ty.prod Ty.str (Ty.prod Ty.str (Ty.prod Ty.bool (Ty.prod Ty.str (Ty.prod (Ty.list (Ty.prod Ty.str Ty.str)) (Ty.list (Ty.prod Ty.str (Ty.prod (Ty.int IntKind.i64) (Ty.list Ty.str))))))))) l_516 Bool.false, jj, jj, AV.int IntKind.i64 (Prod.fst s_580), AV.int IntKind.i64 (Prod.snd s_577), AV.ptr (0 : Nat) (0 : Nat), jj, AV.int IntKind.i64 (Prod.snd s_579), AV.int IntKind.i64 (Prod.snd s_580), jj, jj, jj, jj, jj, jj, jj, jj, jj, jj, jj, jj, jj, jj, jj, jj, jj, jj, jj, jj, jj, jj, jj, jj, jj, jj, jj, jj, jj, jj, jj, jj, jj, jj, jj, jj, jj, jj, jj, jj, jj, jj, jj, jj, jj, jj, jj, jj, jj, jj, jj, jj, jj, jj, jj, jj, jj, jj, jj, jj, jj, jj, jj, jj, jj, jj, jj, jj, jj, jj, jj, jj, jj, jj, jj, jj, jj, jj, jj, jj, jj, jj, jj, jj, jj, jj, jj, jj, jj, jj, jj, jj, jj, jj, jj, jj, jj, jj, jj, jj, jj, jj, jj, jj, jj, jj, jj, jj, jj, jj, jj, jj, jj, jj, jj, jj, jj, jj, jj, jj, jj, jj, jj, jj, jj, jj, jj, jj, jj] [AO.box [AV.str (Prod.fst (List.getD l_516 (Int.toNat (Prod.snd s_577)) ([], [], Bool.false, [], [], []))), AV.str (Prod.fst (Prod.snd (List.getD l_516 (Int.toNat (Prod.snd s_577)) ([], [], Bool.false, [], [], [])))), AV.bool (Prod.fst (Prod.snd (Prod.snd (List.getD l_516 (Int.toNat (Prod.snd s_577)) ([], [], Bool.false, [], [], []))))), AV.str (Prod.fst (Prod.snd (Prod.snd (Prod.snd (List.getD l_516 (Int.toNat (Prod.snd s_577)) ([], [], Bool.false, [], [], [])))))), AV.list (Ty.prod Ty.str Ty.str) (Prod.fst (Prod.snd (Prod.snd (Prod.snd (Prod.snd (List.getD l_516 (Int.toNat (Prod.snd s_577)) ([], [], Bool.false, [], [], []))))))) Bool.false, AV.list (Ty.prod Ty.str (Ty.prod (Ty.int IntKind.i64) (Ty.list Ty.str))) (Prod.snd (Prod.snd (Prod.snd (Prod.snd (Prod.snd (List.getD l_516 (Int.toNat (Prod.snd s_577)) ([], [], Bool.false, [], [], []))))))) Bool.false]] (0 : Nat)))) (Prod.fst s_579, (0 : Int))) (by kernel_rfl) ?_
                        refine W.loop (fun (s_580 : Int × Int) => (Cfg.mk Mode.run (headTodo Go.Proofs.Tryd.prog 16 3) (St.mk [AV.list (Ty.prod Ty.str (Ty.prod Ty.str (Ty.prod Ty.bool (Ty.prod Ty.str (Ty.prod (Ty.list (Ty.prod Ty.str Ty.str)) (Ty.list (Ty.prod Ty.str (Ty.prod (Ty.int IntKind.i64) (Ty.list Ty.str))))))))) l_516 Bool.false, jj, jj, AV.int IntKind.i64 (Prod.fst s_580), AV.int IntKind.i64 (Prod.snd s_577), AV.ptr (0 : Nat) (0 : Nat), jj, AV.int IntKind.i64 (Prod.snd s_579), AV.int IntKind.i64 (Prod.snd s_580), jj, jj, jj, jj, jj, jj, jj, jj, jj, jj, jj, jj, jj, jj, jj, jj, jj, jj, jj, jj, jj, jj, jj, jj, jj, jj, jj, jj, jj, jj, jj, jj, jj, jj, jj, jj, jj, jj, jj, jj, jj, jj, jj, jj, jj, jj, jj, jj, jj, jj, jj, jj, jj, jj, jj, jj, jj, jj, jj, jj, jj, jj, jj, jj, jj, jj, jj, jj, jj, jj, jj, jj, jj, jj, jj, jj, jj, jj, jj, jj, jj, jj, jj, jj, jj, jj, jj, jj, jj, jj, jj, jj, jj, jj, jj, jj, jj, jj, jj, jj, jj, jj, jj, jj, jj, jj, jj, jj, jj, jj, jj, jj, jj, jj, jj, jj, jj, jj, jj, jj, jj, jj, jj, jj, jj, jj, jj, jj, jj] [AO.box [AV.str (Prod.fst (List.getD l_516 (Int.toNat (Prod.snd s_577)) ([], [], Bool.false, [], [], []))), AV.str (Prod.fst (Prod.snd (List.getD l_516 (Int.toNat (Prod.snd s_577)) ([], [], Bool.false, [], [], [])))), AV.bool (Prod.fst (Prod.snd (Prod.snd (List.getD l_516 (Int.toNat (Prod.snd s_577)) ([], [], Bool.false, [], [], []))))), AV.str (Prod.fst (Prod.snd (Prod.snd (Prod.snd (List.getD l_516 (Int.toNat (Prod.snd s_577)) ([], [], Bool.false, [], [], [])))))), AV.list (Ty.prod Ty.str Ty.str) (Prod.fst (Prod.snd (Prod.snd (Prod.snd (Prod.snd (List.getD l_516 (Int.toNat (Prod.snd s_577)) ([], [], Bool.false, [], [], []))))))) Bool.false, AV.list (Ty.prod Ty.str (Ty.prod (Ty.int IntKind.i64) (Ty.list Ty.str))) (Prod.snd (Prod.snd (Prod.snd (Prod.snd (Prod.snd (List.getD l_516 (Int.toNat (Prod.snd s_577)) ([], [], Bool.false, [], [], []))))))) Bool.false]] (0 : Nat)))) (fun t => (Sum.elim (fun t_557 => r = (Bool.false)) (fun t_559 => Walk Go.Proofs.Tryd.prog 16 (Cfg.mk Mode.run ((headTodo Go.Proofs.Tryd.prog 16 3).drop 3) (St.mk [AV.list (Ty.prod Ty.str (Ty.prod Ty.str (Ty.prod Ty.bool (Ty.prod Ty.str (Ty.prod (Ty.list (Ty.prod Ty.str Ty.str)) (Ty.list (Ty.prod Ty.str (Ty.prod (Ty.int IntKind.i64) (Ty.list Ty.str))))))))) l_516 Bool.false, jj, jj, AV.int IntKind.i64 t_559, AV.int IntKind.i64 (Prod.snd s_577), AV.ptr (0 : Nat) (0 : Nat), jj, AV.int IntKind.i64 (Prod.snd s_579), jj, jj, jj, jj, jj, jj, jj, jj, jj, jj, jj, jj, jj, jj, jj, jj, jj, jj, jj, jj, jj, jj, jj, jj, jj, jj, jj, jj, jj, jj, jj, jj, jj, jj, jj, jj, jj, jj, jj, jj, jj, jj, jj, jj, jj, jj, jj, jj, jj, jj, jj, jj, jj, jj, jj, jj, jj, jj, jj, jj, jj, jj, jj, jj, jj, jj, jj, jj, jj, jj, jj, jj, jj, jj, jj, jj, jj, jj, jj, jj, jj, jj, jj, jj, jj, jj, jj, jj, jj, jj, jj, jj, jj, jj, jj, jj, jj, jj, jj, jj, jj, jj, jj, jj, jj, jj, jj, jj, jj, jj, jj, jj, jj, jj, jj, jj, jj, jj, jj, jj, jj, jj, jj, jj, jj, jj, jj, jj, jj, jj] [AO.box [AV.str (Prod.fst (List.getD l_516 (Int.toNat (Prod.snd s_577)) ([], [], Bool.false, [], [], []))), AV.str (Prod.fst (Prod.snd (List.getD l_516 (Int.toNat (Prod.snd s_577)) ([], [], Bool.false, [], [], [])))), AV.bool (Prod.fst (Prod.snd (Prod.snd (List.getD l_516 (Int.toNat (Prod.snd s_577)) ([], [], Bool.false, [], [], []))))), AV.str (Prod.fst (Prod.snd (Prod.snd (Prod.snd (List.getD l_516 (Int.toNat (Prod.snd s_577)) ([], [], Bool.false, [], [], [])))))), AV.list (Ty.prod Ty.str Ty.str) (Prod.fst (Prod.snd (Prod.snd (Prod.snd (Prod.snd (List.getD l_516 (Int.toNat (Prod.snd s_577)) ([], [], Bool.false, [], [], []))))))) Bool.false, AV.list (Ty.prod Ty.str (Ty.prod (Ty.int IntKind.i64) (Ty.list Ty.str))) (Prod.snd (Prod.snd (Prod.snd (Prod.snd (Prod.snd (List.getD l_516 (Int.toNat (Prod.snd s_577)) ([], [], Bool.false, [], [], []))))))) Bool.false]] (0 : Nat))) (cellarerlaw11_Few_res r) (cellarerlaw11_Few_out r))) t) h566 (fun t h566 => ?_) (fun s_580 x561 h561 K561 => ?_)
                        ·
                          rcases t with t_557 | t_559
                          · replace h566 := W.inl (h566)
                            refine W.elimL (?_)
                            cases h566; exact K566
                          · replace h566 := W.inr (h566)
                            refine W.elimR (?_)
                            cases h566; exact W.at 7 100000 [] [0, 3, 4, 5, 7] (by kernel_rfl) K566
                        · unfold cellarerlaw11_Few_b1 at h561
                          refine W.needT 11 100000 h561 (by kernel_rfl) (fun h561 => ?_)
                          refine W.cond 11 100000 h561 (by kernel_rfl) (fun h561 => ?_) (fun h561 => ?_)
                          ·
                            refine W.needT 11 100000 h561 (by kernel_rfl) (fun h561 => ?_)
                            refine W.needT 11 100000 h561 (by kernel_rfl) (fun h561 => ?_)
                            refine W.cond 11 100000 h561 (by kernel_rfl) (fun h561 => ?_) (fun h561 => ?_)
                            ·
                              cases h561; exact W.retK 11 100000 K561 (by kernel_rfl)
                            ·
                              cases h561; exact W.at 11 100000 [] [0, 3, 4, 5, 7, 8] (by kernel_rfl) K561
                          ·
                            cases h561; exact W.at 11 100000 [] [0, 3, 4, 5, 7] (by kernel_rfl) K561
                    · refine W.next 7 4 (by kernel_rfl) ?_
                      refine W.needT 11 100000 h562 (by kernel_rfl) (fun h562 => ?_)
                      refine W.cond 11 100000 h562 (by kernel_rfl) (fun h562 => ?_) (fun h562 => ?_)
                      ·
                        refine W.yes 11 100000 (by kernel_rfl) ?_
                        refine W.yes 11 100000 (by kernel_rfl) ?_
                        refine W.yes 11 100000 (by kernel_rfl) ?_
                        refine W.yes 11 100000 (by kernel_rfl) ?_
                        refine W.yes 11 100000 (by kernel_rfl) ?_
                        refine W.yes 11 100000 (by kernel_rfl) ?_
                        refine W.yes 11 100000 (by kernel_rfl) ?_
                        refine W.yes 11 100000 (by kernel_rfl) ?_
                        refine W.yes 11 100000 (by kernel_rfl) ?_
                        cases h562; exact W.retK 11 100000 K562 (by kernel_rfl)
                      ·
                        refine W.no 11 100000 (by kernel_rfl) ?_
                        refine W.no 11 100000 (by kernel_rfl) ?_
                        refine W.no 11 100000 (by kernel_rfl) ?_
                        refine W.needT 11 100000 h562 (by kernel_rfl) (fun h562 => ?_)
                        refine W.no 11 100000 (by kernel_rfl) ?_
                        refine W.no 11 100000 (by kernel_rfl) ?_
                        refine W.no 11 100000 (by kernel_rfl) ?_
                        refine W.no 11 100000 (by kernel_rfl) ?_
                        refine W.no 11 100000 (by kernel_rfl) ?_
                        refine W.cond 11 100000 h562 (by kernel_rfl) (fun h562 => ?_) (fun h562 => ?_)
                        ·
                          cases h562; exact W.retK 11 100000 K562 (by kernel_rfl)
                        ·
                          cases h562; exact W.at 11 100000 [] [0, 3, 4, 5, 7] (by kernel_rfl) K562
                  ·
                    cases h566; exact W.at 7 100000 [] [0, 3, 4, 5] (by kernel_rfl) K566
            · unfold cellarerlaw11_Few_b0 at h567
              refine W.cond 7 100000 h567 (by kernel_rfl) (fun h567 => ?_) (fun h567 => ?_)
              ·
                refine W.needT 7 100000 h567 (by kernel_rfl) (fun h567 => ?_)
                refine W.cond 7 100000 h567 (by kernel_rfl) (fun h567 => ?_) (fun h567 => ?_)
                ·
                  refine W.yes 7 100000 (by kernel_rfl) ?_
                  refine W.yes 7 100000 (by kernel_rfl) ?_
                  refine W.yes 7 100000 (by kernel_rfl) ?_
                  refine W.yes 7 100000 (by kernel_rfl) ?_
                  refine W.yes 7 100000 (by kernel_rfl) ?_
                  refine W.yes 7 100000 (by kernel_rfl) ?_
                  refine W.yes 7 100000 (by kernel_rfl) ?_
                  refine W.yes 7 100000 (by kernel_rfl) ?_
                  refine W.yes 7 100000 (by kernel_rfl) ?_
                  cases h567; exact W.retK 7 100000 K567 (by kernel_rfl)
                ·
                  refine W.no 7 100000 (by kernel_rfl) ?_
                  refine W.no 7 100000 (by kernel_rfl) ?_
                  refine W.no 7 100000 (by kernel_rfl) ?_
                  refine W.needT 7 100000 h567 (by kernel_rfl) (fun h567 => ?_)
                  refine W.no 7 100000 (by kernel_rfl) ?_
                  refine W.no 7 100000 (by kernel_rfl) ?_
                  refine W.no 7 100000 (by kernel_rfl) ?_
                  refine W.no 7 100000 (by kernel_rfl) ?_
                  refine W.no 7 100000 (by kernel_rfl) ?_
                  refine W.cond 7 100000 h567 (by kernel_rfl) (fun h567 => ?_) (fun h567 => ?_)
                  ·
                    cases h567; exact W.retK 7 100000 K567 (by kernel_rfl)
                  ·
                    cases h567; exact W.at 7 100000 [] [0, 3, 4, 5, 6] (by kernel_rfl) K567
              ·
                cases h567; exact W.at 7 100000 [] [0, 3, 4, 5] (by kernel_rfl) K567
        · refine W.next 2 5 (by kernel_rfl) ?_
          refine W.cond 6 100000 h568 (by kernel_rfl) (fun h568 => ?_) (fun h568 => ?_)
          ·
            refine W.yes 6 100000 (by kernel_rfl) ?_
            refine W.yes 6 100000 (by kernel_rfl) ?_
            refine W.yes 6 100000 (by kernel_rfl) ?_
            refine W.yes 6 100000 (by kernel_rfl) ?_
            refine W.yes 6 100000 (by kernel_rfl) ?_
            refine W.yes 6 100000 (by kernel_rfl) ?_
            refine W.yes 6 100000 (by kernel_rfl) ?_
            refine W.yes 6 100000 (by kernel_rfl) ?_
            refine W.yes 6 100000 (by kernel_rfl) ?_
            refine W.yes 6 100000 (by kernel_rfl) ?_
            refine W.yes 6 100000 (by kernel_rfl) ?_
            refine W.yes 6 100000 (by kernel_rfl) ?_
            refine W.yes 6 100000 (by kernel_rfl) ?_
            refine W.yes 6 100000 (by kernel_rfl) ?_
            refine W.yes 6 100000 (by kernel_rfl) ?_
            refine W.yes 6 100000 (by kernel_rfl) ?_
            refine W.yes 6 100000 (by kernel_rfl) ?_
            refine W.yes 6 100000 (by kernel_rfl) ?_
            refine W.yes 6 100000 (by kernel_rfl) ?_
            refine W.yes 6 100000 (by kernel_rfl) ?_
            cases h568; exact W.retK 6 100000 K568 (by kernel_rfl)
          ·
            refine W.no 6 100000 (by kernel_rfl) ?_
            refine W.no 6 100000 (by kernel_rfl) ?_
            refine W.no 6 100000 (by kernel_rfl) ?_
            refine W.no 6 100000 (by kernel_rfl) ?_
            refine W.cond 6 100000 h568 (by kernel_rfl) (fun h568 => ?_) (fun h568 => ?_)
            ·
              refine W.yes 6 100000 (by kernel_rfl) ?_
              refine W.yes 6 100000 (by kernel_rfl) ?_
              refine W.yes 6 100000 (by kernel_rfl) ?_
              refine W.yes 6 100000 (by kernel_rfl) ?_
              refine W.yes 6 100000 (by kernel_rfl) ?_
              refine W.yes 6 100000 (by kernel_rfl) ?_
              refine W.yes 6 100000 (by kernel_rfl) ?_
              refine W.yes 6 100000 (by kernel_rfl) ?_
              refine W.yes 6 100000 (by kernel_rfl) ?_
              refine W.yes 6 100000 (by kernel_rfl) ?_
              refine W.yes 6 100000 (by kernel_rfl) ?_
              refine W.yes 6 100000 (by kernel_rfl) ?_
              refine W.yes 6 100000 (by kernel_rfl) ?_
              refine W.yes 6 100000 (by kernel_rfl) ?_
              refine W.yes 6 100000 (by kernel_rfl) ?_
              cases h568; exact W.retK 6 100000 K568 (by kernel_rfl)
            ·
              refine W.no 6 100000 (by kernel_rfl) ?_
              refine W.no 6 100000 (by kernel_rfl) ?_
              refine W.no 6 100000 (by kernel_rfl) ?_
              refine W.no 6 100000 (by kernel_rfl) ?_
              refine W.cond 6 100000 h568 (by kernel_rfl) (fun h568 => ?_) (fun h568 => ?_)
              ·
                refine W.yes 6 100000 (by kernel_rfl) ?_
                refine W.yes 6 100000 (by kernel_rfl) ?_
                refine W.yes 6 100000 (by kernel_rfl) ?_
                refine W.yes 6 100000 (by kernel_rfl) ?_
                refine W.yes 6 100000 (by kernel_rfl) ?_
                refine W.yes 6 100000 (by kernel_rfl) ?_
                refine W.yes 6 100000 (by kernel_rfl) ?_
                refine W.yes 6 100000 (by kernel_rfl) ?_
                refine W.yes 6 100000 (by kernel_rfl) ?_
                refine W.yes 6 100000 (by kernel_rfl) ?_
                cases h568; exact W.retK 6 100000 K568 (by kernel_rfl)
              ·
                refine W.no 6 100000 (by kernel_rfl) ?_
                refine W.no 6 100000 (by kernel_rfl) ?_
                refine W.no 6 100000 (by kernel_rfl) ?_
                refine W.no 6 100000 (by kernel_rfl) ?_
                refine W.cond 6 100000 h568 (by kernel_rfl) (fun h568 => ?_) (fun h568 => ?_)
                ·
                  refine W.yes 6 100000 (by kernel_rfl) ?_
                  refine W.yes 6 100000 (by kernel_rfl) ?_
                  refine W.yes 6 100000 (by kernel_rfl) ?_
                  refine W.yes 6 100000 (by kernel_rfl) ?_
                  refine W.yes 6 100000 (by kernel_rfl) ?_
                  cases h568; exact W.retK 6 100000 K568 (by kernel_rfl)
                ·
                  refine W.no 6 100000 (by kernel_rfl) ?_
                  refine W.no 6 100000 (by kernel_rfl) ?_
                  refine W.no 6 100000 (by kernel_rfl) ?_
                  refine W.no 6 100000 (by kernel_rfl) ?_
                  refine W.cond 6 100000 h568 (by kernel_rfl) (fun h568 => ?_) (fun h568 => ?_)
                  ·
                    cases h568; exact W.retK 6 100000 K568 (by kernel_rfl)
                  ·
                    cases h568; exact W.at 6 100000 [] [0, 3, 4, 5] (by kernel_rfl) K568
      ·
        cases h571; exact W.at 2 100000 [] [] (by kernel_rfl) K571

theorem cellarerlaw19_FewActs_con {l_583 : List (Int × List UInt8 × List UInt8 × List UInt8 × (Int × Int × Int) × Int × Bool × Bool × List (List UInt8 × List UInt8) × List (List UInt8))} {n_584 : Int} {r : Bool} (h : cellarerlaw19_FewActs l_583 n_584 = some r) : Con Go.Proofs.Tryd.prog 8 [AV.list (Ty.prod (Ty.int IntKind.i64) (Ty.prod Ty.str (Ty.prod Ty.str (Ty.prod Ty.str (Ty.prod (Ty.prod (Ty.int IntKind.i64) (Ty.prod (Ty.int IntKind.i64) (Ty.int IntKind.i64))) (Ty.prod (Ty.int IntKind.i64) (Ty.prod Ty.bool (Ty.prod Ty.bool (Ty.prod (Ty.list (Ty.prod Ty.str Ty.str)) (Ty.list Ty.str)))))))))) l_583 Bool.false, AV.int IntKind.i64 n_584] [] (cellarerlaw19_FewActs_res r) (cellarerlaw19_FewActs_out r) := by
  refine W.con (by kernel_rfl) ?_
  unfold cellarerlaw19_FewActs at h
  refine W.cond 0 100000 h (by kernel_rfl) (fun h => ?_) (fun h => ?_)
  ·
    exact W.retT 0 100000 h (by kernel_rfl)
  ·
    refine W.at 0 100000 [] [0, 5] (c' := (fun (s_594 : Int) => (Cfg.mk Mode.run (headTodo Go.Proofs.Tryd.prog 8 0) (St.mk [AV.list (Ty.prod (Ty.int IntKind.i64) (Ty.prod Ty.str (Ty.prod Ty.str (Ty.prod Ty.str (Ty.prod (Ty.prod (Ty.int IntKind.i64) (Ty.prod (Ty.int IntKind.i64) (Ty.int IntKind.i64))) (Ty.prod (Ty.int IntKind.i64) (Ty.prod Ty.bool (Ty.prod Ty.bool (Ty.prod (Ty.list (Ty.prod Ty.str Ty.str)) (Ty.list Ty.str)))))))))) l_583 Bool.false, jj, jj, jj, jj, AV.int IntKind.i64 s_594, jj, jj, jj, jj, jj, jj, jj, jj, jj, jj, jj, jj, jj, jj, jj, jj, jj, jj, jj, jj, jj, jj, jj, jj, jj, jj, jj, jj, jj, jj, jj] [] (0 : Nat)))) ((0 : Int))) (by kernel_rfl) ?_
    refine W.loop (fun (s_594 : Int) => (Cfg.mk Mode.run (headTodo Go.Proofs.Tryd.prog 8 0) (St.mk [AV.list (Ty.prod (Ty.int IntKind.i64) (Ty.prod Ty.str (Ty.prod Ty.str (Ty.prod Ty.str (Ty.prod (Ty.prod (Ty.int IntKind.i64) (Ty.prod (Ty.int IntKind.i64) (Ty.int IntKind.i64))) (Ty.prod (Ty.int IntKind.i64) (Ty.prod Ty.bool (Ty.prod Ty.bool (Ty.prod (Ty.list (Ty.prod Ty.str Ty.str)) (Ty.list Ty.str)))))))))) l_583 Bool.false, jj, jj, jj, jj, AV.int IntKind.i64 s_594, jj, jj, jj, jj, jj, jj, jj, jj, jj, jj, jj, jj, jj, jj, jj, jj, jj, jj, jj, jj, jj, jj, jj, jj, jj, jj, jj, jj, jj, jj, jj] [] (0 : Nat)))) (fun t => (Sum.elim (fun t_588 => r = (Bool.false)) (fun t_589 => Walk Go.Proofs.Tryd.prog 8 (Cfg.mk Mode.run ((headTodo Go.Proofs.Tryd.prog 8 0).drop 3) (St.mk [jj, jj, jj, jj, jj, jj, jj, jj, jj, jj, jj, jj, jj, jj, jj, jj, jj, jj, jj, jj, jj, jj, jj, jj, jj, jj, jj, jj, jj, jj, jj, jj, jj, jj, jj, jj, jj] [] (0 : Nat))) (cellarerlaw19_FewActs_res r) (cellarerlaw19_FewActs_out r))) t) h (fun t h => ?_) (fun s_594 x591 h591 K591 => ?_)
    ·
      rcases t with t_588 | t_589
      · replace h := W.inl (h)
        refine W.elimL (?_)
        exact (Option.some.inj h).symm
      · replace h := W.inr (h)
        refine W.elimR (?_)
        exact W.retT 0 100000 h (by kernel_rfl)
    · unfold cellarerlaw19_FewActs_b0 at h591
      refine W.cond 2 100000 h591 (by kernel_rfl) (fun h591 => ?_) (fun h591 => ?_)
      ·
        refine W.needT 2 100000 h591 (by kernel_rfl) (fun h591 => ?_)
        refine W.bind h591 fun a_587 ha_587 h591 => ?_
        refine W.call 2 100000 (by kernel_rfl) (cellarerlaw11_Few_con ha_587) (by kernel_rfl) ?_
        refine W.cond 2 100000 h591 (by kernel_rfl) (fun h591 => ?_) (fun h591 => ?_)
        ·
          cases h591; exact W.retK 2 100000 K591 (by kernel_rfl)
        ·
          cases h591; exact W.at 2 100000 [] [0, 5] (by kernel_rfl) K591
      ·
        cases h591; exact W.at 2 100000 [] [] (by kernel_rfl) K591

end Go.Cellar
