/- What the program's functions come to: printed by a program, checked by Lean. No condition. -/
import Derived.Test.YtblmgbbablmedaaDoorFun10
import Derived.Test.YtblmgbbablmedaaDoorIns10
set_option maxRecDepth 4000
set_option synthInstance.maxHeartbeats 2000000
set_option synthInstance.maxSize 100000
set_option linter.unusedVariables false
namespace Go.Cellar
open Go

theorem cellarerlaw10_few_con {l_1 : List (List UInt8 × Int × Int × Int)} {r : Bool} (h : cellarerlaw10_few l_1 = some r) : Con Go.Proofs.Tryd.prog 7 [AV.list (Ty.prod Ty.str (Ty.prod (Ty.int IntKind.i64) (Ty.prod (Ty.int IntKind.i64) (Ty.int IntKind.i64)))) l_1 Bool.false] [] (cellarerlaw10_few_res r) (cellarerlaw10_few_out r) := by
  refine W.con (by kernel_rfl) ?_
  unfold cellarerlaw10_few at h
  refine W.cond 0 100000 h (by kernel_rfl) (fun h => ?_) (fun h => ?_)
  ·
    exact W.retT 0 100000 h (by kernel_rfl)
  ·
    refine W.at 0 100000 [] [0, 3] (c' := (fun (s_10 : Int) => (Cfg.mk Mode.run (headTodo Go.Proofs.Tryd.prog 7 0) (St.mk [AV.list (Ty.prod Ty.str (Ty.prod (Ty.int IntKind.i64) (Ty.prod (Ty.int IntKind.i64) (Ty.int IntKind.i64)))) l_1 Bool.false, jj, jj, AV.int IntKind.i64 s_10, jj, jj, jj, jj, jj, jj, jj, jj, jj, jj, jj, jj, jj, jj, jj, jj] [] (0 : Nat)))) ((0 : Int))) (by kernel_rfl) ?_
    refine W.loop (fun (s_10 : Int) => (Cfg.mk Mode.run (headTodo Go.Proofs.Tryd.prog 7 0) (St.mk [AV.list (Ty.prod Ty.str (Ty.prod (Ty.int IntKind.i64) (Ty.prod (Ty.int IntKind.i64) (Ty.int IntKind.i64)))) l_1 Bool.false, jj, jj, AV.int IntKind.i64 s_10, jj, jj, jj, jj, jj, jj, jj, jj, jj, jj, jj, jj, jj, jj, jj, jj] [] (0 : Nat)))) (fun t => (Sum.elim (fun t_4 => r = (Bool.false)) (fun t_5 => Walk Go.Proofs.Tryd.prog 7 (Cfg.mk Mode.run ((headTodo Go.Proofs.Tryd.prog 7 0).drop 3) (St.mk [jj, jj, jj, jj, jj, jj, jj, jj, jj, jj, jj, jj, jj, jj, jj, jj, jj, jj, jj, jj] [] (0 : Nat))) (cellarerlaw10_few_res r) (cellarerlaw10_few_out r))) t) h (fun t h => ?_) (fun s_10 x7 h7 K7 => ?_)
    ·
      rcases t with t_4 | t_5
      · replace h := W.inl (h)
        refine W.elimL (?_)
        exact (Option.some.inj h).symm
      · replace h := W.inr (h)
        refine W.elimR (?_)
        exact W.retT 0 100000 h (by kernel_rfl)
    · unfold cellarerlaw10_few_b0 at h7
      refine W.cond 2 100000 h7 (by kernel_rfl) (fun h7 => ?_) (fun h7 => ?_)
      ·
        refine W.needT 2 100000 h7 (by kernel_rfl) (fun h7 => ?_)
        refine W.cond 2 100000 h7 (by kernel_rfl) (fun h7 => ?_) (fun h7 => ?_)
        ·
          cases h7; exact W.retK 2 100000 K7 (by kernel_rfl)
        ·
          cases h7; exact W.at 2 100000 [] [0, 3] (by kernel_rfl) K7
      ·
        cases h7; exact W.at 2 100000 [] [] (by kernel_rfl) K7

theorem stringslite_HasSuffix_con {s_15 : List UInt8} {suffix_16 : List UInt8} {r : Bool} (h : stringslite_HasSuffix s_15 suffix_16 = some r) : Con Go.Proofs.Tryd.prog 67 [AV.str s_15, AV.str suffix_16] [] (stringslite_HasSuffix_res r) (stringslite_HasSuffix_out r) := by
  refine W.con (by kernel_rfl) ?_
  unfold stringslite_HasSuffix at h
  refine W.cond 0 100000 h (by kernel_rfl) (fun h => ?_) (fun h => ?_)
  ·
    refine W.yes 0 100000 (by kernel_rfl) ?_
    refine W.yes 0 100000 (by kernel_rfl) ?_
    refine W.yes 0 100000 (by kernel_rfl) ?_
    refine W.yes 0 100000 (by kernel_rfl) ?_
    refine W.yes 0 100000 (by kernel_rfl) ?_
    refine W.yes 0 100000 (by kernel_rfl) ?_
    refine W.needT 0 100000 h (by kernel_rfl) (fun h => ?_)
    refine W.yes 0 100000 (by kernel_rfl) ?_
    refine W.yes 0 100000 (by kernel_rfl) ?_
    refine W.yes 0 100000 (by kernel_rfl) ?_
    exact W.retT 0 100000 h (by kernel_rfl)
  ·
    refine W.no 0 100000 (by kernel_rfl) ?_
    refine W.no 0 100000 (by kernel_rfl) ?_
    refine W.no 0 100000 (by kernel_rfl) ?_
    refine W.no 0 100000 (by kernel_rfl) ?_
    refine W.no 0 100000 (by kernel_rfl) ?_
    refine W.no 0 100000 (by kernel_rfl) ?_
    refine W.no 0 100000 (by kernel_rfl) ?_
    refine W.no 0 100000 (by kernel_rfl) ?_
    refine W.no 0 100000 (by kernel_rfl) ?_
    exact W.retT 0 100000 h (by kernel_rfl)

theorem strings_HasSuffix_con {s_13 : List UInt8} {suffix_14 : List UInt8} {r : Bool} (h : strings_HasSuffix s_13 suffix_14 = some r) : Con Go.Proofs.Tryd.prog 55 [AV.str s_13, AV.str suffix_14] [] (strings_HasSuffix_res r) (strings_HasSuffix_out r) := by
  refine W.con (by kernel_rfl) ?_
  unfold strings_HasSuffix at h
  refine W.bind h fun a_19 ha_19 h => ?_
  refine W.call 0 100000 (by kernel_rfl) (stringslite_HasSuffix_con ha_19) (by kernel_rfl) ?_
  exact W.retT 0 100000 h (by kernel_rfl)

theorem stringslite_IndexByte_con {s_50 : List UInt8} {c_51 : Int} {r : Int} (h : stringslite_IndexByte s_50 c_51 = some r) : Con Go.Proofs.Tryd.prog 88 [AV.str s_50, AV.int IntKind.u8 c_51] [] (stringslite_IndexByte_res r) (stringslite_IndexByte_out r) := by
  refine W.con (by kernel_rfl) ?_
  unfold stringslite_IndexByte at h
  refine W.needT 0 100000 h (by kernel_rfl) (fun h => ?_)
  exact W.retT 0 100000 h (by kernel_rfl)

theorem stringslite_Index_con {s_55 : List UInt8} {substr_56 : List UInt8} {r : Int} (h : stringslite_Index s_55 substr_56 = some r) : Con Go.Proofs.Tryd.prog 82 [AV.str s_55, AV.str substr_56] [] (stringslite_Index_res r) (stringslite_Index_out r) := by
  refine W.con (by kernel_rfl) ?_
  unfold stringslite_Index at h
  refine W.join (fun t_59 => r = (t_59)) h (fun t_59 h => ?_) (fun t61 h61 K61 => ?_)
  ·
    exact (Option.some.inj h).symm
  · refine W.next 0 11 (by kernel_rfl) ?_
    refine W.cond 1 100000 h61 (by kernel_rfl) (fun h61 => ?_) (fun h61 => ?_)
    ·
      refine W.yes 1 100000 (by kernel_rfl) ?_
      refine W.yes 1 100000 (by kernel_rfl) ?_
      refine W.yes 1 100000 (by kernel_rfl) ?_
      refine W.yes 1 100000 (by kernel_rfl) ?_
      cases h61; exact W.retK 1 100000 K61 (by kernel_rfl)
    ·
      refine W.no 1 100000 (by kernel_rfl) ?_
      refine W.no 1 100000 (by kernel_rfl) ?_
      refine W.no 1 100000 (by kernel_rfl) ?_
      refine W.cond 1 100000 h61 (by kernel_rfl) (fun h61 => ?_) (fun h61 => ?_)
      ·
        cases h61; exact W.retK 1 100000 K61 (by kernel_rfl)
      ·
        refine W.cond 1 100000 h61 (by kernel_rfl) (fun h61 => ?_) (fun h61 => ?_)
        ·
          refine W.needT 1 100000 h61 (by kernel_rfl) (fun h61 => ?_)
          refine W.bind h61 fun a_57 ha_57 h61 => ?_
          refine W.call 1 100000 (by kernel_rfl) (stringslite_IndexByte_con ha_57) (by kernel_rfl) ?_
          cases h61; exact W.retK 1 100000 K61 (by kernel_rfl)
        ·
          refine W.cond 1 100000 h61 (by kernel_rfl) (fun h61 => ?_) (fun h61 => ?_)
          ·
            cases h61; exact W.retK 1 100000 K61 (by kernel_rfl)
          ·
            exact nomatch h61

theorem strings_Index_con {s_46 : List UInt8} {substr_47 : List UInt8} {r : Int} (h : strings_Index s_46 substr_47 = some r) : Con Go.Proofs.Tryd.prog 72 [AV.str s_46, AV.str substr_47] [] (strings_Index_res r) (strings_Index_out r) := by
  refine W.con (by kernel_rfl) ?_
  unfold strings_Index at h
  refine W.bind h fun a_63 ha_63 h => ?_
  refine W.call 0 100000 (by kernel_rfl) (stringslite_Index_con ha_63) (by kernel_rfl) ?_
  exact W.retT 0 100000 h (by kernel_rfl)

theorem strings_Count_con {s_41 : List UInt8} {substr_42 : List UInt8} {r : Int} (h : strings_Count s_41 substr_42 = some r) : Con Go.Proofs.Tryd.prog 71 [AV.str s_41, AV.str substr_42] [] (strings_Count_res r) (strings_Count_out r) := by
  refine W.con (by kernel_rfl) ?_
  unfold strings_Count at h
  refine W.cond 0 100000 h (by kernel_rfl) (fun h => ?_) (fun h => ?_)
  ·
    exact nomatch h
  ·
    refine W.cond 0 100000 h (by kernel_rfl) (fun h => ?_) (fun h => ?_)
    ·
      refine W.needT 0 100000 h (by kernel_rfl) (fun h => ?_)
      exact W.retT 0 100000 h (by kernel_rfl)
    ·
      refine W.at 0 100000 [] [0, 1, 5] (c' := (fun (s_73 : List UInt8 × Int) => (Cfg.mk Mode.run (headTodo Go.Proofs.Tryd.prog 71 0) (St.mk [AV.str (Prod.fst s_73), AV.str substr_42, jj, jj, jj, AV.int IntKind.i64 (Prod.snd s_73), jj, jj, jj, jj, jj, jj, jj, jj, jj, jj, jj, jj, jj, jj, jj, jj, jj, jj, jj, jj, jj, jj, jj, jj, jj, jj, jj, jj] [] (0 : Nat)))) (s_41, (0 : Int))) (by kernel_rfl) ?_
      refine W.loop (fun (s_73 : List UInt8 × Int) => (Cfg.mk Mode.run (headTodo Go.Proofs.Tryd.prog 71 0) (St.mk [AV.str (Prod.fst s_73), AV.str substr_42, jj, jj, jj, AV.int IntKind.i64 (Prod.snd s_73), jj, jj, jj, jj, jj, jj, jj, jj, jj, jj, jj, jj, jj, jj, jj, jj, jj, jj, jj, jj, jj, jj, jj, jj, jj, jj, jj, jj] [] (0 : Nat)))) (fun t_68 => r = (t_68)) h (fun t_68 h => ?_) (fun s_73 x70 h70 K70 => ?_)
      ·
        exact (Option.some.inj h).symm
      · unfold strings_Count_b0 at h70
        refine W.bind h70 fun a_66 ha_66 h70 => ?_
        refine W.call 1 100000 (by kernel_rfl) (strings_Index_con ha_66) (by kernel_rfl) ?_
        refine W.cond 1 100000 h70 (by kernel_rfl) (fun h70 => ?_) (fun h70 => ?_)
        ·
          cases h70; exact W.retK 1 100000 K70 (by kernel_rfl)
        ·
          refine W.needT 1 100000 h70 (by kernel_rfl) (fun h70 => ?_)
          cases h70; exact W.at 1 100000 [] [0, 1, 5] (by kernel_rfl) K70

theorem strings_genSplit_con {s_35 : List UInt8} {sep_36 : List UInt8} {sepSave_37 : Int} {n_38 : Int} {r : List (List UInt8)} (h : strings_genSplit s_35 sep_36 sepSave_37 n_38 = some r) : Con Go.Proofs.Tryd.prog 60 [AV.str s_35, AV.str sep_36, AV.int IntKind.i64 sepSave_37, AV.int IntKind.i64 n_38] [] (strings_genSplit_res r) (strings_genSplit_out r) := by
  refine W.con (by kernel_rfl) ?_
  unfold strings_genSplit at h
  refine W.cond 0 100000 h (by kernel_rfl) (fun h => ?_) (fun h => ?_)
  ·
    exact W.retT 0 100000 h (by kernel_rfl)
  ·
    refine W.cond 0 100000 h (by kernel_rfl) (fun h => ?_) (fun h => ?_)
    ·
      exact nomatch h
    ·
      refine W.join (fun t_76 => Walk Go.Proofs.Tryd.prog 60 (Cfg.mk Mode.run (seqTodo Go.Proofs.Tryd.prog 60 7) (St.mk [AV.str s_35, AV.str sep_36, AV.int IntKind.i64 sepSave_37, AV.int IntKind.i64 t_76, jj, jj, jj, jj, jj, jj, jj, jj, jj, jj, jj, jj, jj, jj, jj, jj, jj, jj, jj, jj, jj, jj, jj, jj, jj, jj, jj, jj, jj, jj, jj, jj, jj, jj, jj, jj, jj, jj, jj, jj, jj, jj, jj, jj, jj, jj, jj, jj, jj, jj, jj, jj, jj, jj, jj, jj, jj, jj, jj, jj, jj, jj] [] (0 : Nat))) (strings_genSplit_res r) (strings_genSplit_out r)) h (fun t_76 h => ?_) (fun t90 h90 K90 => ?_)
      ·
        refine W.needT 0 100000 h (by kernel_rfl) (fun h => ?_)
        refine W.at 0 100000 [] [0, 1, 2, 3, 9, 10] (c' := (fun (s_93 : List UInt8 × Int × List (List UInt8)) => (Cfg.mk Mode.run (headTodo Go.Proofs.Tryd.prog 60 0) (St.mk [AV.str (Prod.fst s_93), AV.str sep_36, AV.int IntKind.i64 sepSave_37, AV.int IntKind.i64 (IntKind.wrap IntKind.i64 ((if IntKind.wrap IntKind.i64 ((↑(List.length s_35) : Int) + (1 : Int)) < t_76 then IntKind.wrap IntKind.i64 ((↑(List.length s_35) : Int) + (1 : Int)) else t_76) - (1 : Int))), jj, jj, jj, jj, jj, AV.view (0 : Nat) (0 : Nat) Option.none, AV.int IntKind.i64 (Prod.fst (Prod.snd s_93)), jj, jj, jj, jj, jj, jj, jj, jj, jj, jj, jj, jj, jj, jj, jj, jj, jj, jj, jj, jj, jj, jj, jj, jj, jj, jj, jj, jj, jj, jj, jj, jj, jj, jj, jj, jj, jj, jj, jj, jj, jj, jj, jj, jj, jj, jj, jj, jj, jj, jj, jj, jj, jj, jj, jj] [AO.row Ty.str (Prod.snd (Prod.snd s_93))] (0 : Nat)))) (s_35, (0 : Int), List.replicate (Int.toNat (if IntKind.wrap IntKind.i64 ((↑(List.length s_35) : Int) + (1 : Int)) < t_76 then IntKind.wrap IntKind.i64 ((↑(List.length s_35) : Int) + (1 : Int)) else t_76)) [])) (by kernel_rfl) ?_
        refine W.loop (fun (s_93 : List UInt8 × Int × List (List UInt8)) => (Cfg.mk Mode.run (headTodo Go.Proofs.Tryd.prog 60 0) (St.mk [AV.str (Prod.fst s_93), AV.str sep_36, AV.int IntKind.i64 sepSave_37, AV.int IntKind.i64 (IntKind.wrap IntKind.i64 ((if IntKind.wrap IntKind.i64 ((↑(List.length s_35) : Int) + (1 : Int)) < t_76 then IntKind.wrap IntKind.i64 ((↑(List.length s_35) : Int) + (1 : Int)) else t_76) - (1 : Int))), jj, jj, jj, jj, jj, AV.view (0 : Nat) (0 : Nat) Option.none, AV.int IntKind.i64 (Prod.fst (Prod.snd s_93)), jj, jj, jj, jj, jj, jj, jj, jj, jj, jj, jj, jj, jj, jj, jj, jj, jj, jj, jj, jj, jj, jj, jj, jj, jj, jj, jj, jj, jj, jj, jj, jj, jj, jj, jj, jj, jj, jj, jj, jj, jj, jj, jj, jj, jj, jj, jj, jj, jj, jj, jj, jj, jj, jj, jj] [AO.row Ty.str (Prod.snd (Prod.snd s_93))] (0 : Nat)))) (fun t_87 => Walk Go.Proofs.Tryd.prog 60 (Cfg.mk Mode.run ((headTodo Go.Proofs.Tryd.prog 60 0).drop 3) (St.mk [AV.str (Prod.fst t_87), jj, jj, jj, jj, jj, jj, jj, jj, AV.view (0 : Nat) (0 : Nat) Option.none, AV.int IntKind.i64 (Prod.fst (Prod.snd t_87)), jj, jj, jj, jj, jj, jj, jj, jj, jj, jj, jj, jj, jj, jj, jj, jj, jj, jj, jj, jj, jj, jj, jj, jj, jj, jj, jj, jj, jj, jj, jj, jj, jj, jj, jj, jj, jj, jj, jj, jj, jj, jj, jj, jj, jj, jj, jj, jj, jj, jj, jj, jj, jj, jj, jj] [AO.row Ty.str (Prod.snd (Prod.snd t_87))] (0 : Nat))) (strings_genSplit_res r) (strings_genSplit_out r)) h (fun t_87 h => ?_) (fun s_93 x89 h89 K89 => ?_)
        ·
          refine W.needT 0 100000 h (by kernel_rfl) (fun h => ?_)
          refine W.needT 0 100000 h (by kernel_rfl) (fun h => ?_)
          refine W.needT 0 100000 h (by kernel_rfl) (fun h => ?_)
          exact W.retT 0 100000 h (by kernel_rfl)
        · unfold strings_genSplit_b0 at h89
          refine W.cond 2 100000 h89 (by kernel_rfl) (fun h89 => ?_) (fun h89 => ?_)
          ·
            refine W.bind h89 fun a_83 ha_83 h89 => ?_
            refine W.call 2 100000 (by kernel_rfl) (strings_Index_con ha_83) (by kernel_rfl) ?_
            refine W.cond 2 100000 h89 (by kernel_rfl) (fun h89 => ?_) (fun h89 => ?_)
            ·
              cases h89; exact W.at 2 100000 [] [0, 9, 10] (by kernel_rfl) K89
            ·
              refine W.needT 2 100000 h89 (by kernel_rfl) (fun h89 => ?_)
              refine W.needT 2 100000 h89 (by kernel_rfl) (fun h89 => ?_)
              refine W.needT 2 100000 h89 (by kernel_rfl) (fun h89 => ?_)
              refine W.needT 2 100000 h89 (by kernel_rfl) (fun h89 => ?_)
              cases h89; exact W.at 2 100000 [] [0, 1, 2, 3, 9, 10] (by kernel_rfl) K89
          ·
            cases h89; exact W.at 2 100000 [] [0, 9, 10] (by kernel_rfl) K89
      · refine W.next 0 2 (by kernel_rfl) ?_
        refine W.cond 1 100000 h90 (by kernel_rfl) (fun h90 => ?_) (fun h90 => ?_)
        ·
          refine W.bind h90 fun a_74 ha_74 h90 => ?_
          refine W.call 1 100000 (by kernel_rfl) (strings_Count_con ha_74) (by kernel_rfl) ?_
          cases h90; exact W.at 1 100000 [] [0, 1, 2, 3] (by kernel_rfl) K90
        ·
          cases h90; exact W.at 1 100000 [] [0, 1, 2, 3] (by kernel_rfl) K90

theorem strings_Split_con {s_23 : List UInt8} {sep_24 : List UInt8} {r : List (List UInt8)} (h : strings_Split s_23 sep_24 = some r) : Con Go.Proofs.Tryd.prog 34 [AV.str s_23, AV.str sep_24] [] (strings_Split_res r) (strings_Split_out r) := by
  refine W.con (by kernel_rfl) ?_
  unfold strings_Split at h
  refine W.bind h fun a_94 ha_94 h => ?_
  refine W.call 0 100000 (by kernel_rfl) (strings_genSplit_con ha_94) (by kernel_rfl) ?_
  exact W.retT 0 100000 h (by kernel_rfl)

theorem stanza_Lines_con {s_12 : List UInt8} {r : Int × List (List UInt8)} (h : stanza_Lines s_12 = some r) : Con Go.Proofs.Tryd.prog 31 [AV.str s_12] [] (stanza_Lines_res r) (stanza_Lines_out r) := by
  refine W.con (by kernel_rfl) ?_
  unfold stanza_Lines at h
  refine W.cond 0 100000 h (by kernel_rfl) (fun h => ?_) (fun h => ?_)
  ·
    exact W.retT 0 100000 h (by kernel_rfl)
  ·
    refine W.bind h fun a_22 ha_22 h => ?_
    refine W.call 0 100000 (by kernel_rfl) (strings_HasSuffix_con ha_22) (by kernel_rfl) ?_
    refine W.cond 0 100000 h (by kernel_rfl) (fun h => ?_) (fun h => ?_)
    ·
      exact W.retT 0 100000 h (by kernel_rfl)
    ·
      refine W.needT 0 100000 h (by kernel_rfl) (fun h => ?_)
      refine W.bind h fun a_97 ha_97 h => ?_
      refine W.call 0 100000 (by kernel_rfl) (strings_Split_con ha_97) (by kernel_rfl) ?_
      exact W.retT 0 100000 h (by kernel_rfl)

theorem stringslite_HasPrefix_con {s_113 : List UInt8} {prefix_114 : List UInt8} {r : Bool} (h : stringslite_HasPrefix s_113 prefix_114 = some r) : Con Go.Proofs.Tryd.prog 69 [AV.str s_113, AV.str prefix_114] [] (stringslite_HasPrefix_res r) (stringslite_HasPrefix_out r) := by
  refine W.con (by kernel_rfl) ?_
  unfold stringslite_HasPrefix at h
  refine W.cond 0 100000 h (by kernel_rfl) (fun h => ?_) (fun h => ?_)
  ·
    refine W.yes 0 100000 (by kernel_rfl) ?_
    refine W.yes 0 100000 (by kernel_rfl) ?_
    refine W.yes 0 100000 (by kernel_rfl) ?_
    refine W.needT 0 100000 h (by kernel_rfl) (fun h => ?_)
    refine W.yes 0 100000 (by kernel_rfl) ?_
    refine W.yes 0 100000 (by kernel_rfl) ?_
    refine W.yes 0 100000 (by kernel_rfl) ?_
    exact W.retT 0 100000 h (by kernel_rfl)
  ·
    refine W.no 0 100000 (by kernel_rfl) ?_
    refine W.no 0 100000 (by kernel_rfl) ?_
    refine W.no 0 100000 (by kernel_rfl) ?_
    refine W.no 0 100000 (by kernel_rfl) ?_
    refine W.no 0 100000 (by kernel_rfl) ?_
    refine W.no 0 100000 (by kernel_rfl) ?_
    exact W.retT 0 100000 h (by kernel_rfl)

theorem stringslite_TrimPrefix_con {s_111 : List UInt8} {prefix_112 : List UInt8} {r : List UInt8} (h : stringslite_TrimPrefix s_111 prefix_112 = some r) : Con Go.Proofs.Tryd.prog 68 [AV.str s_111, AV.str prefix_112] [] (stringslite_TrimPrefix_res r) (stringslite_TrimPrefix_out r) := by
  refine W.con (by kernel_rfl) ?_
  unfold stringslite_TrimPrefix at h
  refine W.bind h fun a_117 ha_117 h => ?_
  refine W.call 0 100000 (by kernel_rfl) (stringslite_HasPrefix_con ha_117) (by kernel_rfl) ?_
  refine W.cond 0 100000 h (by kernel_rfl) (fun h => ?_) (fun h => ?_)
  ·
    refine W.needT 0 100000 h (by kernel_rfl) (fun h => ?_)
    exact W.retT 0 100000 h (by kernel_rfl)
  ·
    exact W.retT 0 100000 h (by kernel_rfl)

theorem strings_TrimPrefix_con {s_109 : List UInt8} {prefix_110 : List UInt8} {r : List UInt8} (h : strings_TrimPrefix s_109 prefix_110 = some r) : Con Go.Proofs.Tryd.prog 57 [AV.str s_109, AV.str prefix_110] [] (strings_TrimPrefix_res r) (strings_TrimPrefix_out r) := by
  refine W.con (by kernel_rfl) ?_
  unfold strings_TrimPrefix at h
  refine W.bind h fun a_120 ha_120 h => ?_
  refine W.call 0 100000 (by kernel_rfl) (stringslite_TrimPrefix_con ha_120) (by kernel_rfl) ?_
  exact W.retT 0 100000 h (by kernel_rfl)

theorem bits_Text_con {n_144 : Int} {r : List UInt8} (h : bits_Text n_144 = some r) : Con Go.Proofs.Tryd.prog 52 [AV.int IntKind.i64 n_144] [] (bits_Text_res r) (bits_Text_out r) := by
  refine W.con (by kernel_rfl) ?_
  unfold bits_Text at h
  refine W.join (fun t_146 => Walk Go.Proofs.Tryd.prog 52 (Cfg.mk Mode.run (seqTodo Go.Proofs.Tryd.prog 52 2) (St.mk [AV.int IntKind.i64 n_144, jj, jj, AV.int IntKind.u64 t_146, jj, jj, jj, jj, jj, jj, jj, jj, jj, jj, jj, jj, jj, jj, jj, jj, jj, jj, jj, jj, jj, jj, jj, jj, jj, jj, jj, jj, jj, jj, jj, jj, jj] [] (0 : Nat))) (bits_Text_res r) (bits_Text_out r)) h (fun t_146 h => ?_) (fun t159 h159 K159 => ?_)
  ·
    refine W.at 0 100000 [] [0, 3, 4, 5] (c' := (fun (s_162 : Int × Int × List Int) => (Cfg.mk Mode.run (headTodo Go.Proofs.Tryd.prog 52 0) (St.mk [AV.int IntKind.i64 n_144, jj, jj, AV.int IntKind.u64 (Prod.fst s_162), AV.ptr (0 : Nat) (0 : Nat), AV.int IntKind.i64 (Prod.fst (Prod.snd s_162)), jj, jj, jj, jj, jj, jj, jj, jj, jj, jj, jj, jj, jj, jj, jj, jj, jj, jj, jj, jj, jj, jj, jj, jj, jj, jj, jj, jj, jj, jj, jj] [AO.arr (Ty.int IntKind.u8) (Prod.snd (Prod.snd s_162))] (0 : Nat)))) (t_146, (20 : Int), List.replicate (20 : Nat) (0 : Int))) (by kernel_rfl) ?_
    refine W.loop (fun (s_162 : Int × Int × List Int) => (Cfg.mk Mode.run (headTodo Go.Proofs.Tryd.prog 52 0) (St.mk [AV.int IntKind.i64 n_144, jj, jj, AV.int IntKind.u64 (Prod.fst s_162), AV.ptr (0 : Nat) (0 : Nat), AV.int IntKind.i64 (Prod.fst (Prod.snd s_162)), jj, jj, jj, jj, jj, jj, jj, jj, jj, jj, jj, jj, jj, jj, jj, jj, jj, jj, jj, jj, jj, jj, jj, jj, jj, jj, jj, jj, jj, jj, jj] [AO.arr (Ty.int IntKind.u8) (Prod.snd (Prod.snd s_162))] (0 : Nat)))) (fun t_156 => Walk Go.Proofs.Tryd.prog 52 (Cfg.mk Mode.run ((headTodo Go.Proofs.Tryd.prog 52 0).drop 3) (St.mk [AV.int IntKind.i64 n_144, jj, jj, jj, AV.ptr (0 : Nat) (0 : Nat), AV.int IntKind.i64 (Prod.fst t_156), jj, jj, jj, jj, jj, jj, jj, jj, jj, jj, jj, jj, jj, jj, jj, jj, jj, jj, jj, jj, jj, jj, jj, jj, jj, jj, jj, jj, jj, jj, jj] [AO.arr (Ty.int IntKind.u8) (Prod.snd t_156)] (0 : Nat))) (bits_Text_res r) (bits_Text_out r)) h (fun t_156 h => ?_) (fun s_162 x158 h158 K158 => ?_)
    ·
      refine W.cond 0 100000 h (by kernel_rfl) (fun h => ?_) (fun h => ?_)
      ·
        refine W.needT 0 100000 h (by kernel_rfl) (fun h => ?_)
        refine W.needT 0 100000 h (by kernel_rfl) (fun h => ?_)
        exact W.retT 0 100000 h (by kernel_rfl)
      ·
        refine W.needT 0 100000 h (by kernel_rfl) (fun h => ?_)
        exact W.retT 0 100000 h (by kernel_rfl)
    · unfold bits_Text_b0 at h158
      refine W.join (fun t => (Sum.elim (fun t_151 => Walk Go.Proofs.Tryd.prog 52 (Cfg.mk Mode.run (seqTodo Go.Proofs.Tryd.prog 52 7) (St.mk [AV.int IntKind.i64 n_144, jj, jj, AV.int IntKind.u64 (Prod.fst s_162), AV.ptr (0 : Nat) (0 : Nat), AV.int IntKind.i64 (Prod.fst (Prod.snd s_162)), jj, jj, jj, jj, jj, jj, jj, jj, jj, jj, jj, jj, jj, jj, jj, jj, jj, jj, jj, jj, jj, jj, jj, jj, jj, jj, jj, jj, jj, jj, jj] [AO.arr (Ty.int IntKind.u8) (Prod.snd (Prod.snd s_162))] (0 : Nat))) (bits_Text_res r) (bits_Text_out r)) (fun t_152 => Walk Go.Proofs.Tryd.prog 52 (Cfg.mk Mode.run ((seqTodo Go.Proofs.Tryd.prog 52 7).drop 3) (St.mk [AV.int IntKind.i64 n_144, jj, jj, jj, AV.ptr (0 : Nat) (0 : Nat), AV.int IntKind.i64 (Prod.fst (Prod.snd s_162)), jj, jj, jj, jj, jj, jj, jj, jj, jj, jj, jj, jj, jj, jj, jj, jj, jj, jj, jj, jj, jj, jj, jj, jj, jj, jj, jj, jj, jj, jj, jj] [AO.arr (Ty.int IntKind.u8) (Prod.snd (Prod.snd s_162))] (0 : Nat))) (bits_Text_res r) (bits_Text_out r))) t) h158 (fun t h158 => ?_) (fun t154 h154 K154 => ?_)
      ·
        rcases t with t_151 | t_152
        · replace h158 := W.inl (h158)
          refine W.elimL (?_)
          refine W.need 2 100000 (p := (10 : Int) ≠ (0 : Int)) (by kernel_rfl) (by decide) ?_
          refine W.needT 2 100000 h158 (by kernel_rfl) (fun h158 => ?_)
          refine W.needT 2 100000 h158 (by kernel_rfl) (fun h158 => ?_)
          refine W.need 2 100000 (p := (10 : Int) ≠ (0 : Int)) (by kernel_rfl) (by decide) ?_
          cases h158; exact W.at 2 100000 [] [0, 3, 4, 5] (by kernel_rfl) K158
        · replace h158 := W.inr (h158)
          refine W.elimR (?_)
          cases h158; exact W.at 2 100000 [] [0, 4, 5] (by kernel_rfl) K158
      · refine W.next 2 1 (by kernel_rfl) ?_
        refine W.cond 4 100000 h154 (by kernel_rfl) (fun h154 => ?_) (fun h154 => ?_)
        ·
          refine W.yes 4 100000 (by kernel_rfl) ?_
          refine W.yes 4 100000 (by kernel_rfl) ?_
          refine W.yes 4 100000 (by kernel_rfl) ?_
          cases h154; exact W.at 4 100000 [] [0, 3, 4, 5] (by kernel_rfl) K154
        ·
          refine W.no 4 100000 (by kernel_rfl) ?_
          refine W.no 4 100000 (by kernel_rfl) ?_
          refine W.cond 4 100000 h154 (by kernel_rfl) (fun h154 => ?_) (fun h154 => ?_)
          ·
            cases h154; exact W.at 4 100000 [] [0, 3, 4, 5] (by kernel_rfl) K154
          ·
            cases h154; exact W.at 4 100000 [] [0, 4, 5] (by kernel_rfl) K154
  · refine W.next 0 11 (by kernel_rfl) ?_
    refine W.cond 1 100000 h159 (by kernel_rfl) (fun h159 => ?_) (fun h159 => ?_)
    ·
      cases h159; exact W.at 1 100000 [] [0, 3] (by kernel_rfl) K159
    ·
      cases h159; exact W.at 1 100000 [] [0, 3] (by kernel_rfl) K159

theorem bits_Int_con {s_124 : List UInt8} {r : Int × Int} (h : bits_Int s_124 = some r) : Con Go.Proofs.Tryd.prog 56 [AV.str s_124] [] (bits_Int_res r) (bits_Int_out r) := by
  refine W.con (by kernel_rfl) ?_
  unfold bits_Int at h
  refine W.join (fun t_127 => Walk Go.Proofs.Tryd.prog 56 (Cfg.mk Mode.run (seqTodo Go.Proofs.Tryd.prog 56 2) (St.mk [AV.str s_124, jj, jj, jj, AV.str (Prod.fst t_127), AV.bool (Prod.snd t_127), jj, jj, jj, jj, jj, jj, jj, jj, jj, jj, jj, jj, jj, jj, jj, jj, jj, jj, jj, jj, jj, jj, jj, jj, jj, jj, jj, jj, jj, jj, jj, jj, jj, jj, jj, jj, jj, jj, jj, jj, jj, jj, jj, jj, jj, jj, jj, jj, jj, jj, jj, jj, jj, jj, jj, jj, jj] [] (0 : Nat))) (bits_Int_res r) (bits_Int_out r)) h (fun t_127 h => ?_) (fun t168 h168 K168 => ?_)
  ·
    refine W.join (fun t => (Sum.elim (fun t_128 => r = ((0 : Int), (2 : Int))) (fun t_129 => Walk Go.Proofs.Tryd.prog 56 (Cfg.mk Mode.run (seqTodo Go.Proofs.Tryd.prog 56 4) (St.mk [AV.str s_124, jj, jj, jj, AV.str (Prod.fst t_127), AV.bool (Prod.snd t_127), jj, jj, jj, jj, jj, jj, jj, jj, jj, jj, jj, jj, jj, jj, jj, jj, jj, jj, jj, jj, jj, jj, jj, jj, jj, jj, jj, jj, jj, jj, jj, jj, jj, jj, jj, jj, jj, jj, jj, jj, jj, jj, jj, jj, jj, jj, jj, jj, jj, jj, jj, jj, jj, jj, jj, jj, jj] [] (0 : Nat))) (bits_Int_res r) (bits_Int_out r))) t) h (fun t h => ?_) (fun t167 h167 K167 => ?_)
    ·
      rcases t with t_128 | t_129
      · replace h := W.inl (h)
        refine W.elimL (?_)
        exact (Option.some.inj h).symm
      · replace h := W.inr (h)
        refine W.elimR (?_)
        refine W.at 0 100000 [] [0, 4, 5, 6, 29, 30] (c' := (fun (s_172 : Int × Int) => (Cfg.mk Mode.run (headTodo Go.Proofs.Tryd.prog 56 0) (St.mk [AV.str s_124, jj, jj, jj, AV.str (Prod.fst t_127), AV.bool (Prod.snd t_127), AV.int IntKind.u64 (Prod.fst s_172), jj, jj, jj, jj, jj, jj, jj, jj, jj, jj, jj, jj, jj, jj, jj, jj, jj, jj, jj, jj, jj, jj, AV.int IntKind.i64 (↑(List.length (Prod.fst t_127)) : Int), AV.int IntKind.i64 (Prod.snd s_172), jj, jj, jj, jj, jj, jj, jj, jj, jj, jj, jj, jj, jj, jj, jj, jj, jj, jj, jj, jj, jj, jj, jj, jj, jj, jj, jj, jj, jj, jj, jj, jj] [] (0 : Nat)))) ((0 : Int), (0 : Int))) (by kernel_rfl) ?_
        refine W.loop (fun (s_172 : Int × Int) => (Cfg.mk Mode.run (headTodo Go.Proofs.Tryd.prog 56 0) (St.mk [AV.str s_124, jj, jj, jj, AV.str (Prod.fst t_127), AV.bool (Prod.snd t_127), AV.int IntKind.u64 (Prod.fst s_172), jj, jj, jj, jj, jj, jj, jj, jj, jj, jj, jj, jj, jj, jj, jj, jj, jj, jj, jj, jj, jj, jj, AV.int IntKind.i64 (↑(List.length (Prod.fst t_127)) : Int), AV.int IntKind.i64 (Prod.snd s_172), jj, jj, jj, jj, jj, jj, jj, jj, jj, jj, jj, jj, jj, jj, jj, jj, jj, jj, jj, jj, jj, jj, jj, jj, jj, jj, jj, jj, jj, jj, jj, jj] [] (0 : Nat)))) (fun t => (Sum.elim (fun t_139 => r = ((0 : Int), (2 : Int))) (fun t_141 => Walk Go.Proofs.Tryd.prog 56 (Cfg.mk Mode.run ((headTodo Go.Proofs.Tryd.prog 56 0).drop 3) (St.mk [AV.str s_124, jj, jj, jj, jj, AV.bool (Prod.snd t_127), AV.int IntKind.u64 t_141, jj, jj, jj, jj, jj, jj, jj, jj, jj, jj, jj, jj, jj, jj, jj, jj, jj, jj, jj, jj, jj, jj, jj, jj, jj, jj, jj, jj, jj, jj, jj, jj, jj, jj, jj, jj, jj, jj, jj, jj, jj, jj, jj, jj, jj, jj, jj, jj, jj, jj, jj, jj, jj, jj, jj, jj] [] (0 : Nat))) (bits_Int_res r) (bits_Int_out r))) t) h (fun t h => ?_) (fun s_172 x166 h166 K166 => ?_)
        ·
          rcases t with t_139 | t_141
          · replace h := W.inl (h)
            refine W.elimL (?_)
            exact (Option.some.inj h).symm
          · replace h := W.inr (h)
            refine W.elimR (?_)
            refine W.join (fun t_143 => Walk Go.Proofs.Tryd.prog 56 (Cfg.mk Mode.run (seqTodo Go.Proofs.Tryd.prog 56 18) (St.mk [AV.str s_124, jj, jj, jj, jj, jj, jj, jj, AV.int IntKind.i64 t_143, jj, jj, jj, jj, jj, jj, jj, jj, jj, jj, jj, jj, jj, jj, jj, jj, jj, jj, jj, jj, jj, jj, jj, jj, jj, jj, jj, jj, jj, jj, jj, jj, jj, jj, jj, jj, jj, jj, jj, jj, jj, jj, jj, jj, jj, jj, jj, jj, jj, jj, jj, jj, jj, jj] [] (0 : Nat))) (bits_Int_res r) (bits_Int_out r)) h (fun t_143 h => ?_) (fun t165 h165 K165 => ?_)
            ·
              refine W.bind h fun a_163 ha_163 h => ?_
              refine W.call 0 100000 (by kernel_rfl) (bits_Text_con ha_163) (by kernel_rfl) ?_
              refine W.cond 0 100000 h (by kernel_rfl) (fun h => ?_) (fun h => ?_)
              ·
                exact W.retT 0 100000 h (by kernel_rfl)
              ·
                exact W.retT 0 100000 h (by kernel_rfl)
            · refine W.next 0 7 (by kernel_rfl) ?_
              refine W.cond 1 100000 h165 (by kernel_rfl) (fun h165 => ?_) (fun h165 => ?_)
              ·
                cases h165; exact W.at 1 100000 [] [0, 8] (by kernel_rfl) K165
              ·
                cases h165; exact W.at 1 100000 [] [0, 8] (by kernel_rfl) K165
        · unfold bits_Int_b0 at h166
          refine W.cond 2 100000 h166 (by kernel_rfl) (fun h166 => ?_) (fun h166 => ?_)
          ·
            refine W.join (fun t => (Sum.elim (fun t_136 => r = ((0 : Int), (2 : Int))) (fun t_137 => Walk Go.Proofs.Tryd.prog 56 (Cfg.mk Mode.run (seqTodo Go.Proofs.Tryd.prog 56 14) (St.mk [AV.str s_124, jj, jj, jj, AV.str (Prod.fst t_127), AV.bool (Prod.snd t_127), AV.int IntKind.u64 (Prod.fst s_172), AV.int IntKind.i64 (Prod.snd s_172), jj, jj, jj, jj, jj, jj, jj, jj, jj, jj, jj, jj, jj, jj, jj, jj, jj, jj, jj, jj, jj, AV.int IntKind.i64 (↑(List.length (Prod.fst t_127)) : Int), AV.int IntKind.i64 (Prod.snd s_172), jj, jj, jj, jj, jj, jj, jj, jj, jj, jj, jj, jj, jj, jj, jj, jj, jj, jj, jj, jj, jj, jj, jj, jj, jj, jj, jj, jj, jj, jj, jj, jj] [] (0 : Nat))) (bits_Int_res r) (bits_Int_out r))) t) h166 (fun t h166 => ?_) (fun t139 h139 K139 => ?_)
            ·
              rcases t with t_136 | t_137
              · replace h166 := W.inl (h166)
                refine W.elimL (?_)
                cases h166; exact K166
              · replace h166 := W.inr (h166)
                refine W.elimR (?_)
                refine W.needT 2 100000 h166 (by kernel_rfl) (fun h166 => ?_)
                cases h166; exact W.at 2 100000 [] [0, 4, 5, 6, 29, 30] (by kernel_rfl) K166
            · refine W.next 2 9 (by kernel_rfl) ?_
              refine W.needT 6 100000 h139 (by kernel_rfl) (fun h139 => ?_)
              refine W.cond 6 100000 h139 (by kernel_rfl) (fun h139 => ?_) (fun h139 => ?_)
              ·
                refine W.yes 6 100000 (by kernel_rfl) ?_
                refine W.yes 6 100000 (by kernel_rfl) ?_
                refine W.yes 6 100000 (by kernel_rfl) ?_
                refine W.yes 6 100000 (by kernel_rfl) ?_
                refine W.yes 6 100000 (by kernel_rfl) ?_
                cases h139; exact W.retK 6 100000 K139 (by kernel_rfl)
              ·
                refine W.no 6 100000 (by kernel_rfl) ?_
                refine W.no 6 100000 (by kernel_rfl) ?_
                refine W.needT 6 100000 h139 (by kernel_rfl) (fun h139 => ?_)
                refine W.no 6 100000 (by kernel_rfl) ?_
                refine W.no 6 100000 (by kernel_rfl) ?_
                refine W.cond 6 100000 h139 (by kernel_rfl) (fun h139 => ?_) (fun h139 => ?_)
                ·
                  cases h139; exact W.retK 6 100000 K139 (by kernel_rfl)
                ·
                  cases h139; exact W.at 6 100000 [] [0, 4, 5, 6, 7, 29, 30] (by kernel_rfl) K139
          ·
            cases h166; exact W.at 2 100000 [] [0, 5, 6] (by kernel_rfl) K166
    · refine W.next 0 1 (by kernel_rfl) ?_
      refine W.cond 1 100000 h167 (by kernel_rfl) (fun h167 => ?_) (fun h167 => ?_)
      ·
        refine W.yes 1 100000 (by kernel_rfl) ?_
        refine W.yes 1 100000 (by kernel_rfl) ?_
        refine W.yes 1 100000 (by kernel_rfl) ?_
        refine W.yes 1 100000 (by kernel_rfl) ?_
        cases h167; exact W.retK 1 100000 K167 (by kernel_rfl)
      ·
        refine W.no 1 100000 (by kernel_rfl) ?_
        refine W.no 1 100000 (by kernel_rfl) ?_
        refine W.no 1 100000 (by kernel_rfl) ?_
        refine W.cond 1 100000 h167 (by kernel_rfl) (fun h167 => ?_) (fun h167 => ?_)
        ·
          cases h167; exact W.retK 1 100000 K167 (by kernel_rfl)
        ·
          cases h167; exact W.at 1 100000 [] [0, 4, 5] (by kernel_rfl) K167
  · refine W.next 0 12 (by kernel_rfl) ?_
    refine W.cond 1 100000 h168 (by kernel_rfl) (fun h168 => ?_) (fun h168 => ?_)
    ·
      refine W.yes 1 100000 (by kernel_rfl) ?_
      refine W.needT 1 100000 h168 (by kernel_rfl) (fun h168 => ?_)
      refine W.yes 1 100000 (by kernel_rfl) ?_
      refine W.yes 1 100000 (by kernel_rfl) ?_
      refine W.cond 1 100000 h168 (by kernel_rfl) (fun h168 => ?_) (fun h168 => ?_)
      ·
        refine W.needT 1 100000 h168 (by kernel_rfl) (fun h168 => ?_)
        cases h168; exact W.at 1 100000 [] [0, 4, 5] (by kernel_rfl) K168
      ·
        cases h168; exact W.at 1 100000 [] [0, 4, 5] (by kernel_rfl) K168
    ·
      refine W.no 1 100000 (by kernel_rfl) ?_
      refine W.no 1 100000 (by kernel_rfl) ?_
      refine W.no 1 100000 (by kernel_rfl) ?_
      refine W.no 1 100000 (by kernel_rfl) ?_
      cases h168; exact W.at 1 100000 [] [0, 4, 5] (by kernel_rfl) K168

theorem strings_HasPrefix_con {s_174 : List UInt8} {prefix_175 : List UInt8} {r : Bool} (h : strings_HasPrefix s_174 prefix_175 = some r) : Con Go.Proofs.Tryd.prog 58 [AV.str s_174, AV.str prefix_175] [] (strings_HasPrefix_res r) (strings_HasPrefix_out r) := by
  refine W.con (by kernel_rfl) ?_
  unfold strings_HasPrefix at h
  refine W.bind h fun a_176 ha_176 h => ?_
  refine W.call 0 100000 (by kernel_rfl) (stringslite_HasPrefix_con ha_176) (by kernel_rfl) ?_
  exact W.retT 0 100000 h (by kernel_rfl)

theorem overs_reader__id_con {s_107 : List UInt8} {o0_108 : Bool} {r : Int × Bool} (h : overs_reader__id s_107 o0_108 = some r) : Con Go.Proofs.Tryd.prog 32 [AV.ptr (0 : Nat) (0 : Nat), AV.str s_107] [AO.box [AV.bool o0_108]] (overs_reader__id_res r) (overs_reader__id_out r) := by
  refine W.con (by kernel_rfl) ?_
  unfold overs_reader__id at h
  refine W.bind h fun a_123 ha_123 h => ?_
  refine W.call 0 100000 (by kernel_rfl) (strings_TrimPrefix_con ha_123) (by kernel_rfl) ?_
  refine W.bind h fun a_173 ha_173 h => ?_
  refine W.call 0 100000 (by kernel_rfl) (bits_Int_con ha_173) (by kernel_rfl) ?_
  refine W.cond 0 100000 h (by kernel_rfl) (fun h => ?_) (fun h => ?_)
  ·
    refine W.yes 0 100000 (by kernel_rfl) ?_
    refine W.yes 0 100000 (by kernel_rfl) ?_
    refine W.yes 0 100000 (by kernel_rfl) ?_
    refine W.yes 0 100000 (by kernel_rfl) ?_
    refine W.yes 0 100000 (by kernel_rfl) ?_
    refine W.yes 0 100000 (by kernel_rfl) ?_
    exact W.retT 0 100000 h (by kernel_rfl)
  ·
    refine W.no 0 100000 (by kernel_rfl) ?_
    refine W.no 0 100000 (by kernel_rfl) ?_
    refine W.cond 0 100000 h (by kernel_rfl) (fun h => ?_) (fun h => ?_)
    ·
      refine W.yes 0 100000 (by kernel_rfl) ?_
      refine W.yes 0 100000 (by kernel_rfl) ?_
      refine W.yes 0 100000 (by kernel_rfl) ?_
      exact W.retT 0 100000 h (by kernel_rfl)
    ·
      refine W.no 0 100000 (by kernel_rfl) ?_
      refine W.bind h fun a_179 ha_179 h => ?_
      refine W.call 0 100000 (by kernel_rfl) (strings_HasPrefix_con ha_179) (by kernel_rfl) ?_
      refine W.no 0 100000 (by kernel_rfl) ?_
      refine W.no 0 100000 (by kernel_rfl) ?_
      exact W.retT 0 100000 h (by kernel_rfl)

theorem bits_ParseOctal_con {s_187 : List UInt8} {r : Int × Int} (h : bits_ParseOctal s_187 = some r) : Con Go.Proofs.Tryd.prog 59 [AV.str s_187] [] (bits_ParseOctal_res r) (bits_ParseOctal_out r) := by
  refine W.con (by kernel_rfl) ?_
  unfold bits_ParseOctal at h
  refine W.cond 0 100000 h (by kernel_rfl) (fun h => ?_) (fun h => ?_)
  ·
    exact W.retT 0 100000 h (by kernel_rfl)
  ·
    refine W.at 0 100000 [] [0, 4, 10, 11] (c' := (fun (s_203 : Int × Int) => (Cfg.mk Mode.run (headTodo Go.Proofs.Tryd.prog 59 0) (St.mk [AV.str s_187, jj, jj, jj, AV.int IntKind.i64 (Prod.fst s_203), jj, jj, jj, jj, jj, AV.int IntKind.i64 (↑(List.length s_187) : Int), AV.int IntKind.i64 (Prod.snd s_203), jj, jj, jj, jj, jj, jj, jj, jj, jj, jj, jj, jj, jj, jj, jj, jj, jj, jj, jj, jj, jj, jj] [] (0 : Nat)))) ((0 : Int), (0 : Int))) (by kernel_rfl) ?_
    refine W.loop (fun (s_203 : Int × Int) => (Cfg.mk Mode.run (headTodo Go.Proofs.Tryd.prog 59 0) (St.mk [AV.str s_187, jj, jj, jj, AV.int IntKind.i64 (Prod.fst s_203), jj, jj, jj, jj, jj, AV.int IntKind.i64 (↑(List.length s_187) : Int), AV.int IntKind.i64 (Prod.snd s_203), jj, jj, jj, jj, jj, jj, jj, jj, jj, jj, jj, jj, jj, jj, jj, jj, jj, jj, jj, jj, jj, jj] [] (0 : Nat)))) (fun t => (Sum.elim (fun t_195 => r = ((0 : Int), (2 : Int))) (fun t_197 => Walk Go.Proofs.Tryd.prog 59 (Cfg.mk Mode.run ((headTodo Go.Proofs.Tryd.prog 59 0).drop 3) (St.mk [jj, jj, jj, jj, AV.int IntKind.i64 t_197, jj, jj, jj, jj, jj, jj, jj, jj, jj, jj, jj, jj, jj, jj, jj, jj, jj, jj, jj, jj, jj, jj, jj, jj, jj, jj, jj, jj, jj] [] (0 : Nat))) (bits_ParseOctal_res r) (bits_ParseOctal_out r))) t) h (fun t h => ?_) (fun s_203 x199 h199 K199 => ?_)
    ·
      rcases t with t_195 | t_197
      · replace h := W.inl (h)
        refine W.elimL (?_)
        exact (Option.some.inj h).symm
      · replace h := W.inr (h)
        refine W.elimR (?_)
        exact W.retT 0 100000 h (by kernel_rfl)
    · unfold bits_ParseOctal_b0 at h199
      refine W.cond 2 100000 h199 (by kernel_rfl) (fun h199 => ?_) (fun h199 => ?_)
      ·
        refine W.join (fun t => (Sum.elim (fun t_192 => r = ((0 : Int), (2 : Int))) (fun t_193 => Walk Go.Proofs.Tryd.prog 59 (Cfg.mk Mode.run (seqTodo Go.Proofs.Tryd.prog 59 11) (St.mk [AV.str s_187, jj, jj, jj, AV.int IntKind.i64 (Prod.fst s_203), AV.int IntKind.i64 (Prod.snd s_203), jj, jj, jj, jj, AV.int IntKind.i64 (↑(List.length s_187) : Int), AV.int IntKind.i64 (Prod.snd s_203), jj, jj, jj, jj, jj, jj, jj, jj, jj, jj, jj, jj, jj, jj, jj, jj, jj, jj, jj, jj, jj, jj] [] (0 : Nat))) (bits_ParseOctal_res r) (bits_ParseOctal_out r))) t) h199 (fun t h199 => ?_) (fun t195 h195 K195 => ?_)
        ·
          rcases t with t_192 | t_193
          · replace h199 := W.inl (h199)
            refine W.elimL (?_)
            cases h199; exact K199
          · replace h199 := W.inr (h199)
            refine W.elimR (?_)
            refine W.need 2 100000 (p := (0 : Int) ≤ (3 : Int)) (by kernel_rfl) (by decide) ?_
            refine W.needT 2 100000 h199 (by kernel_rfl) (fun h199 => ?_)
            cases h199; exact W.at 2 100000 [] [0, 4, 10, 11] (by kernel_rfl) K199
        · refine W.next 2 9 (by kernel_rfl) ?_
          refine W.needT 6 100000 h195 (by kernel_rfl) (fun h195 => ?_)
          refine W.cond 6 100000 h195 (by kernel_rfl) (fun h195 => ?_) (fun h195 => ?_)
          ·
            refine W.yes 6 100000 (by kernel_rfl) ?_
            refine W.yes 6 100000 (by kernel_rfl) ?_
            refine W.yes 6 100000 (by kernel_rfl) ?_
            refine W.yes 6 100000 (by kernel_rfl) ?_
            refine W.yes 6 100000 (by kernel_rfl) ?_
            cases h195; exact W.retK 6 100000 K195 (by kernel_rfl)
          ·
            refine W.no 6 100000 (by kernel_rfl) ?_
            refine W.no 6 100000 (by kernel_rfl) ?_
            refine W.needT 6 100000 h195 (by kernel_rfl) (fun h195 => ?_)
            refine W.no 6 100000 (by kernel_rfl) ?_
            refine W.no 6 100000 (by kernel_rfl) ?_
            refine W.cond 6 100000 h195 (by kernel_rfl) (fun h195 => ?_) (fun h195 => ?_)
            ·
              cases h195; exact W.retK 6 100000 K195 (by kernel_rfl)
            ·
              cases h195; exact W.at 6 100000 [] [0, 4, 5, 10, 11] (by kernel_rfl) K195
      ·
        cases h199; exact W.at 2 100000 [] [4] (by kernel_rfl) K199

theorem overs_reader__mode_con {s_185 : List UInt8} {o0_186 : Bool} {r : Int × Bool} (h : overs_reader__mode s_185 o0_186 = some r) : Con Go.Proofs.Tryd.prog 33 [AV.ptr (0 : Nat) (0 : Nat), AV.str s_185] [AO.box [AV.bool o0_186]] (overs_reader__mode_res r) (overs_reader__mode_out r) := by
  refine W.con (by kernel_rfl) ?_
  unfold overs_reader__mode at h
  refine W.bind h fun a_204 ha_204 h => ?_
  refine W.call 0 100000 (by kernel_rfl) (bits_ParseOctal_con ha_204) (by kernel_rfl) ?_
  refine W.cond 0 100000 h (by kernel_rfl) (fun h => ?_) (fun h => ?_)
  ·
    refine W.yes 0 100000 (by kernel_rfl) ?_
    refine W.yes 0 100000 (by kernel_rfl) ?_
    exact W.retT 0 100000 h (by kernel_rfl)
  ·
    refine W.no 0 100000 (by kernel_rfl) ?_
    refine W.no 0 100000 (by kernel_rfl) ?_
    exact W.retT 0 100000 h (by kernel_rfl)

theorem path_plain_con {s_233 : List UInt8} {r : Bool} (h : path_plain s_233 = some r) : Con Go.Proofs.Tryd.prog 74 [AV.str s_233] [] (path_plain_res r) (path_plain_out r) := by
  refine W.con (by kernel_rfl) ?_
  unfold path_plain at h
  refine W.at 0 100000 [] [0, 5, 6] (c' := (fun (s_244 : Int) => (Cfg.mk Mode.run (headTodo Go.Proofs.Tryd.prog 74 0) (St.mk [AV.str s_233, jj, jj, jj, jj, AV.int IntKind.i64 (↑(List.length s_233) : Int), AV.int IntKind.i64 s_244, jj, jj, jj, jj, jj, jj, jj, jj, jj, jj, jj, jj, jj, jj, jj] [] (0 : Nat)))) ((0 : Int))) (by kernel_rfl) ?_
  refine W.loop (fun (s_244 : Int) => (Cfg.mk Mode.run (headTodo Go.Proofs.Tryd.prog 74 0) (St.mk [AV.str s_233, jj, jj, jj, jj, AV.int IntKind.i64 (↑(List.length s_233) : Int), AV.int IntKind.i64 s_244, jj, jj, jj, jj, jj, jj, jj, jj, jj, jj, jj, jj, jj, jj, jj] [] (0 : Nat)))) (fun t => (Sum.elim (fun t_237 => r = (Bool.false)) (fun t_238 => Walk Go.Proofs.Tryd.prog 74 (Cfg.mk Mode.run ((headTodo Go.Proofs.Tryd.prog 74 0).drop 3) (St.mk [AV.str s_233, jj, jj, jj, jj, jj, jj, jj, jj, jj, jj, jj, jj, jj, jj, jj, jj, jj, jj, jj, jj, jj] [] (0 : Nat))) (path_plain_res r) (path_plain_out r))) t) h (fun t h => ?_) (fun s_244 x241 h241 K241 => ?_)
  ·
    rcases t with t_237 | t_238
    · replace h := W.inl (h)
      refine W.elimL (?_)
      exact (Option.some.inj h).symm
    · replace h := W.inr (h)
      refine W.elimR (?_)
      refine W.bind h fun a_239 ha_239 h => ?_
      refine W.call 0 100000 (by kernel_rfl) (strings_HasPrefix_con ha_239) (by kernel_rfl) ?_
      exact W.retT 0 100000 h (by kernel_rfl)
  · unfold path_plain_b0 at h241
    refine W.cond 2 100000 h241 (by kernel_rfl) (fun h241 => ?_) (fun h241 => ?_)
    ·
      refine W.needT 2 100000 h241 (by kernel_rfl) (fun h241 => ?_)
      refine W.cond 2 100000 h241 (by kernel_rfl) (fun h241 => ?_) (fun h241 => ?_)
      ·
        refine W.yes 2 100000 (by kernel_rfl) ?_
        refine W.yes 2 100000 (by kernel_rfl) ?_
        refine W.yes 2 100000 (by kernel_rfl) ?_
        refine W.yes 2 100000 (by kernel_rfl) ?_
        refine W.yes 2 100000 (by kernel_rfl) ?_
        cases h241; exact W.retK 2 100000 K241 (by kernel_rfl)
      ·
        refine W.no 2 100000 (by kernel_rfl) ?_
        refine W.no 2 100000 (by kernel_rfl) ?_
        refine W.needT 2 100000 h241 (by kernel_rfl) (fun h241 => ?_)
        refine W.no 2 100000 (by kernel_rfl) ?_
        refine W.no 2 100000 (by kernel_rfl) ?_
        refine W.cond 2 100000 h241 (by kernel_rfl) (fun h241 => ?_) (fun h241 => ?_)
        ·
          cases h241; exact W.retK 2 100000 K241 (by kernel_rfl)
        ·
          cases h241; exact W.at 2 100000 [] [0, 5, 6] (by kernel_rfl) K241
    ·
      cases h241; exact W.at 2 100000 [] [0] (by kernel_rfl) K241

theorem path_Parts_1_con {p_252 : List UInt8} {r : Bool} (h : path_Parts_1 p_252 = some r) : Con Go.Proofs.Tryd.prog 85 [AV.str p_252] [] (path_Parts_1_res r) (path_Parts_1_out r) := by
  refine W.con (by kernel_rfl) ?_
  unfold path_Parts_1 at h
  exact W.retT 0 100000 h (by kernel_rfl)

theorem path_keep_string__con {l_248 : List (List UInt8)} {r : List (List UInt8)} (h : path_keep_string_ l_248 = some r) : Con Go.Proofs.Tryd.prog 84 [AV.list Ty.str l_248 Bool.false, AV.func (Go.Fn.func (85 : Nat)) [] []] [] (path_keep_string__res r) (path_keep_string__out r) := by
  refine W.con (by kernel_rfl) ?_
  unfold path_keep_string_ at h
  refine W.at 0 100000 [Co.own 5 (Ty.str)] [1, 5, 8, 9, 10] (c' := (fun (s_267 : Int × List (List UInt8)) => (Cfg.mk Mode.run (headTodo Go.Proofs.Tryd.prog 84 0) (St.mk [jj, AV.func (Go.Fn.func (85 : Nat)) [] [], jj, jj, jj, AV.view (0 : Nat) (0 : Nat) Option.none, jj, jj, AV.list Ty.str l_248 Bool.false, AV.int IntKind.i64 (↑(List.length l_248) : Int), AV.int IntKind.i64 (Prod.fst s_267), jj, jj, jj, jj, jj, jj, jj, jj, jj, jj, jj, jj] [AO.row Ty.str (Prod.snd s_267)] (0 : Nat)))) ((0 : Int), [])) (by kernel_rfl) ?_
  refine W.loop (fun (s_267 : Int × List (List UInt8)) => (Cfg.mk Mode.run (headTodo Go.Proofs.Tryd.prog 84 0) (St.mk [jj, AV.func (Go.Fn.func (85 : Nat)) [] [], jj, jj, jj, AV.view (0 : Nat) (0 : Nat) Option.none, jj, jj, AV.list Ty.str l_248 Bool.false, AV.int IntKind.i64 (↑(List.length l_248) : Int), AV.int IntKind.i64 (Prod.fst s_267), jj, jj, jj, jj, jj, jj, jj, jj, jj, jj, jj, jj] [AO.row Ty.str (Prod.snd s_267)] (0 : Nat)))) (fun t_262 => Walk Go.Proofs.Tryd.prog 84 (Cfg.mk Mode.run ((headTodo Go.Proofs.Tryd.prog 84 0).drop 3) (St.mk [jj, jj, jj, jj, jj, AV.view (0 : Nat) (0 : Nat) Option.none, jj, jj, jj, jj, jj, jj, jj, jj, jj, jj, jj, jj, jj, jj, jj, jj, jj] [AO.row Ty.str t_262] (0 : Nat))) (path_keep_string__res r) (path_keep_string__out r)) h (fun t_262 h => ?_) (fun s_267 x264 h264 K264 => ?_)
  ·
    exact W.retT 0 100000 h (by kernel_rfl)
  · unfold path_keep_string__b0 at h264
    refine W.cond 2 100000 h264 (by kernel_rfl) (fun h264 => ?_) (fun h264 => ?_)
    ·
      refine W.needT 2 100000 h264 (by kernel_rfl) (fun h264 => ?_)
      refine W.bind h264 fun a_260 ha_260 h264 => ?_
      refine W.call 2 100000 (by kernel_rfl) (path_Parts_1_con ha_260) (by kernel_rfl) ?_
      refine W.cond 2 100000 h264 (by kernel_rfl) (fun h264 => ?_) (fun h264 => ?_)
      ·
        refine W.needT 2 100000 h264 (by kernel_rfl) (fun h264 => ?_)
        cases h264; exact W.at 2 100000 [Co.own 5 (Ty.str)] [1, 5, 8, 9, 10] (by kernel_rfl) K264
      ·
        cases h264; exact W.at 2 100000 [Co.own 5 (Ty.str)] [1, 5, 8, 9, 10] (by kernel_rfl) K264
    ·
      cases h264; exact W.at 2 100000 [] [5] (by kernel_rfl) K264

theorem path_Parts_con {s_246 : List UInt8} {r : List (List UInt8)} (h : path_Parts s_246 = some r) : Con Go.Proofs.Tryd.prog 75 [AV.str s_246] [] (path_Parts_res r) (path_Parts_out r) := by
  refine W.con (by kernel_rfl) ?_
  unfold path_Parts at h
  refine W.bind h fun a_247 ha_247 h => ?_
  refine W.call 0 100000 (by kernel_rfl) (strings_Split_con ha_247) (by kernel_rfl) ?_
  refine W.bind h fun a_268 ha_268 h => ?_
  refine W.call 0 100000 (by kernel_rfl) (path_keep_string__con ha_268) (by kernel_rfl) ?_
  exact W.retT 0 100000 h (by kernel_rfl)

theorem path_Clean_con {s_232 : List UInt8} {r : List UInt8 × Int} (h : path_Clean s_232 = some r) : Con Go.Proofs.Tryd.prog 63 [AV.str s_232] [] (path_Clean_res r) (path_Clean_out r) := by
  refine W.con (by kernel_rfl) ?_
  unfold path_Clean at h
  refine W.bind h fun a_245 ha_245 h => ?_
  refine W.call 0 100000 (by kernel_rfl) (path_plain_con ha_245) (by kernel_rfl) ?_
  refine W.cond 0 100000 h (by kernel_rfl) (fun h => ?_) (fun h => ?_)
  ·
    exact W.retT 0 100000 h (by kernel_rfl)
  ·
    refine W.bind h fun a_271 ha_271 h => ?_
    refine W.call 0 100000 (by kernel_rfl) (path_Parts_con ha_271) (by kernel_rfl) ?_
    refine W.at 0 100000 [Co.own 4 (Ty.str)] [4, 12, 13, 14] (c' := (fun (s_287 : Int × List (List UInt8)) => (Cfg.mk Mode.run (headTodo Go.Proofs.Tryd.prog 63 0) (St.mk [jj, jj, jj, jj, AV.view (0 : Nat) (0 : Nat) Option.none, jj, jj, jj, jj, jj, jj, jj, AV.view (1 : Nat) (0 : Nat) Option.none, AV.int IntKind.i64 ((↑(List.length a_271) : Int) - (↑(0 : Nat) : Int)), AV.int IntKind.i64 (Prod.fst s_287), jj, jj, jj, jj, jj, jj, jj, jj, jj, jj, jj, jj, jj, jj, jj, jj, jj, jj, jj, jj, jj, jj, jj, jj, jj, jj, jj] [AO.row Ty.str (Prod.snd s_287), AO.row Ty.str a_271] (0 : Nat)))) ((0 : Int), [])) (by kernel_rfl) ?_
    refine W.loop (fun (s_287 : Int × List (List UInt8)) => (Cfg.mk Mode.run (headTodo Go.Proofs.Tryd.prog 63 0) (St.mk [jj, jj, jj, jj, AV.view (0 : Nat) (0 : Nat) Option.none, jj, jj, jj, jj, jj, jj, jj, AV.view (1 : Nat) (0 : Nat) Option.none, AV.int IntKind.i64 ((↑(List.length a_271) : Int) - (↑(0 : Nat) : Int)), AV.int IntKind.i64 (Prod.fst s_287), jj, jj, jj, jj, jj, jj, jj, jj, jj, jj, jj, jj, jj, jj, jj, jj, jj, jj, jj, jj, jj, jj, jj, jj, jj, jj, jj] [AO.row Ty.str (Prod.snd s_287), AO.row Ty.str a_271] (0 : Nat)))) (fun t_280 => Walk Go.Proofs.Tryd.prog 63 (Cfg.mk Mode.run ((headTodo Go.Proofs.Tryd.prog 63 0).drop 3) (St.mk [jj, jj, jj, jj, AV.view (0 : Nat) (0 : Nat) Option.none, jj, jj, jj, jj, jj, jj, jj, jj, jj, jj, jj, jj, jj, jj, jj, jj, jj, jj, jj, jj, jj, jj, jj, jj, jj, jj, jj, jj, jj, jj, jj, jj, jj, jj, jj, jj, jj] [AO.row Ty.str t_280] (0 : Nat))) (path_Clean_res r) (path_Clean_out r)) h (fun t_280 h => ?_) (fun s_287 x283 h283 K283 => ?_)
    ·
      refine W.bind h fun a_281 ha_281 h => ?_
      refine W.call 0 100000 (by kernel_rfl) (strings_Join_con ha_281) (by kernel_rfl) ?_
      refine W.needT 0 100000 h (by kernel_rfl) (fun h => ?_)
      refine W.cond 0 100000 h (by kernel_rfl) (fun h => ?_) (fun h => ?_)
      ·
        exact W.retT 0 100000 h (by kernel_rfl)
      ·
        exact W.retT 0 100000 h (by kernel_rfl)
    · unfold path_Clean_b0 at h283
      refine W.cond 2 100000 h283 (by kernel_rfl) (fun h283 => ?_) (fun h283 => ?_)
      ·
        refine W.needT 2 100000 h283 (by kernel_rfl) (fun h283 => ?_)
        refine W.needT 2 100000 h283 (by kernel_rfl) (fun h283 => ?_)
        refine W.cond 2 100000 h283 (by kernel_rfl) (fun h283 => ?_) (fun h283 => ?_)
        ·
          cases h283; exact W.at 2 100000 [Co.own 4 (Ty.str)] [4, 12, 13, 14] (by kernel_rfl) K283
        ·
          refine W.cond 2 100000 h283 (by kernel_rfl) (fun h283 => ?_) (fun h283 => ?_)
          ·
            refine W.needT 2 100000 h283 (by kernel_rfl) (fun h283 => ?_)
            cases h283; exact W.at 2 100000 [Co.own 4 (Ty.str)] [4, 12, 13, 14] (by kernel_rfl) K283
          ·
            refine W.needT 2 100000 h283 (by kernel_rfl) (fun h283 => ?_)
            cases h283; exact W.at 2 100000 [Co.own 4 (Ty.str)] [4, 12, 13, 14] (by kernel_rfl) K283
      ·
        cases h283; exact W.at 2 100000 [] [4] (by kernel_rfl) K283

theorem path_Right_con {s_231 : List UInt8} {r : Bool} (h : path_Right s_231 = some r) : Con Go.Proofs.Tryd.prog 47 [AV.str s_231] [] (path_Right_res r) (path_Right_out r) := by
  refine W.con (by kernel_rfl) ?_
  unfold path_Right at h
  refine W.bind h fun a_288 ha_288 h => ?_
  refine W.call 0 100000 (by kernel_rfl) (path_Clean_con ha_288) (by kernel_rfl) ?_
  refine W.cond 0 100000 h (by kernel_rfl) (fun h => ?_) (fun h => ?_)
  ·
    refine W.yes 0 100000 (by kernel_rfl) ?_
    refine W.yes 0 100000 (by kernel_rfl) ?_
    refine W.yes 0 100000 (by kernel_rfl) ?_
    exact W.retT 0 100000 h (by kernel_rfl)
  ·
    refine W.no 0 100000 (by kernel_rfl) ?_
    refine W.no 0 100000 (by kernel_rfl) ?_
    refine W.no 0 100000 (by kernel_rfl) ?_
    exact W.retT 0 100000 h (by kernel_rfl)

theorem bits_Right_con {m_292 : Int} {m_293 : Int} {m_294 : Int} {r : Bool} (h : bits_Right m_292 m_293 m_294 = some r) : Con Go.Proofs.Tryd.prog 48 [AV.agg [AV.int IntKind.i64 m_292, AV.int IntKind.i64 m_293, AV.int IntKind.i64 m_294]] [] (bits_Right_res r) (bits_Right_out r) := by
  refine W.con (by kernel_rfl) ?_
  unfold bits_Right at h
  refine W.cond 0 100000 h (by kernel_rfl) (fun h => ?_) (fun h => ?_)
  ·
    refine W.yes 0 100000 (by kernel_rfl) ?_
    refine W.yes 0 100000 (by kernel_rfl) ?_
    refine W.yes 0 100000 (by kernel_rfl) ?_
    refine W.cond 0 100000 h (by kernel_rfl) (fun h => ?_) (fun h => ?_)
    ·
      refine W.yes 0 100000 (by kernel_rfl) ?_
      refine W.yes 0 100000 (by kernel_rfl) ?_
      refine W.yes 0 100000 (by kernel_rfl) ?_
      refine W.cond 0 100000 h (by kernel_rfl) (fun h => ?_) (fun h => ?_)
      ·
        refine W.yes 0 100000 (by kernel_rfl) ?_
        refine W.yes 0 100000 (by kernel_rfl) ?_
        refine W.yes 0 100000 (by kernel_rfl) ?_
        refine W.cond 0 100000 h (by kernel_rfl) (fun h => ?_) (fun h => ?_)
        ·
          refine W.yes 0 100000 (by kernel_rfl) ?_
          refine W.yes 0 100000 (by kernel_rfl) ?_
          refine W.yes 0 100000 (by kernel_rfl) ?_
          refine W.cond 0 100000 h (by kernel_rfl) (fun h => ?_) (fun h => ?_)
          ·
            refine W.yes 0 100000 (by kernel_rfl) ?_
            refine W.yes 0 100000 (by kernel_rfl) ?_
            refine W.yes 0 100000 (by kernel_rfl) ?_
            exact W.retT 0 100000 h (by kernel_rfl)
          ·
            refine W.no 0 100000 (by kernel_rfl) ?_
            refine W.no 0 100000 (by kernel_rfl) ?_
            refine W.no 0 100000 (by kernel_rfl) ?_
            exact W.retT 0 100000 h (by kernel_rfl)
        ·
          refine W.no 0 100000 (by kernel_rfl) ?_
          refine W.no 0 100000 (by kernel_rfl) ?_
          refine W.no 0 100000 (by kernel_rfl) ?_
          refine W.no 0 100000 (by kernel_rfl) ?_
          refine W.no 0 100000 (by kernel_rfl) ?_
          refine W.no 0 100000 (by kernel_rfl) ?_
          refine W.no 0 100000 (by kernel_rfl) ?_
          exact W.retT 0 100000 h (by kernel_rfl)
      ·
        refine W.no 0 100000 (by kernel_rfl) ?_
        refine W.no 0 100000 (by kernel_rfl) ?_
        refine W.no 0 100000 (by kernel_rfl) ?_
        refine W.no 0 100000 (by kernel_rfl) ?_
        refine W.no 0 100000 (by kernel_rfl) ?_
        refine W.no 0 100000 (by kernel_rfl) ?_
        refine W.no 0 100000 (by kernel_rfl) ?_
        refine W.no 0 100000 (by kernel_rfl) ?_
        refine W.no 0 100000 (by kernel_rfl) ?_
        refine W.no 0 100000 (by kernel_rfl) ?_
        refine W.no 0 100000 (by kernel_rfl) ?_
        exact W.retT 0 100000 h (by kernel_rfl)
    ·
      refine W.no 0 100000 (by kernel_rfl) ?_
      refine W.no 0 100000 (by kernel_rfl) ?_
      refine W.no 0 100000 (by kernel_rfl) ?_
      refine W.no 0 100000 (by kernel_rfl) ?_
      refine W.no 0 100000 (by kernel_rfl) ?_
      refine W.no 0 100000 (by kernel_rfl) ?_
      refine W.no 0 100000 (by kernel_rfl) ?_
      refine W.no 0 100000 (by kernel_rfl) ?_
      refine W.no 0 100000 (by kernel_rfl) ?_
      refine W.no 0 100000 (by kernel_rfl) ?_
      refine W.no 0 100000 (by kernel_rfl) ?_
      refine W.no 0 100000 (by kernel_rfl) ?_
      refine W.no 0 100000 (by kernel_rfl) ?_
      refine W.no 0 100000 (by kernel_rfl) ?_
      refine W.no 0 100000 (by kernel_rfl) ?_
      exact W.retT 0 100000 h (by kernel_rfl)
  ·
    refine W.no 0 100000 (by kernel_rfl) ?_
    refine W.no 0 100000 (by kernel_rfl) ?_
    refine W.no 0 100000 (by kernel_rfl) ?_
    refine W.no 0 100000 (by kernel_rfl) ?_
    refine W.no 0 100000 (by kernel_rfl) ?_
    refine W.no 0 100000 (by kernel_rfl) ?_
    refine W.no 0 100000 (by kernel_rfl) ?_
    refine W.no 0 100000 (by kernel_rfl) ?_
    refine W.no 0 100000 (by kernel_rfl) ?_
    refine W.no 0 100000 (by kernel_rfl) ?_
    refine W.no 0 100000 (by kernel_rfl) ?_
    refine W.no 0 100000 (by kernel_rfl) ?_
    refine W.no 0 100000 (by kernel_rfl) ?_
    refine W.no 0 100000 (by kernel_rfl) ?_
    refine W.no 0 100000 (by kernel_rfl) ?_
    refine W.no 0 100000 (by kernel_rfl) ?_
    refine W.no 0 100000 (by kernel_rfl) ?_
    refine W.no 0 100000 (by kernel_rfl) ?_
    refine W.no 0 100000 (by kernel_rfl) ?_
    exact W.retT 0 100000 h (by kernel_rfl)

theorem overs_Right_con {x_227 : List UInt8} {x_228 : Int} {x_229 : Int} {x_230 : Int} {r : Bool} (h : overs_Right x_227 x_228 x_229 x_230 = some r) : Con Go.Proofs.Tryd.prog 24 [AV.agg [AV.str x_227, AV.int IntKind.i64 x_228, AV.int IntKind.i64 x_229, AV.int IntKind.i64 x_230]] [] (overs_Right_res r) (overs_Right_out r) := by
  refine W.con (by kernel_rfl) ?_
  unfold overs_Right at h
  refine W.bind h fun a_291 ha_291 h => ?_
  refine W.call 0 100000 (by kernel_rfl) (path_Right_con ha_291) (by kernel_rfl) ?_
  refine W.cond 0 100000 h (by kernel_rfl) (fun h => ?_) (fun h => ?_)
  ·
    refine W.yes 0 100000 (by kernel_rfl) ?_
    refine W.yes 0 100000 (by kernel_rfl) ?_
    refine W.bind h fun a_297 ha_297 h => ?_
    refine W.call 0 100000 (by kernel_rfl) (bits_Right_con ha_297) (by kernel_rfl) ?_
    refine W.yes 0 100000 (by kernel_rfl) ?_
    exact W.retT 0 100000 h (by kernel_rfl)
  ·
    refine W.no 0 100000 (by kernel_rfl) ?_
    refine W.no 0 100000 (by kernel_rfl) ?_
    refine W.no 0 100000 (by kernel_rfl) ?_
    exact W.retT 0 100000 h (by kernel_rfl)

theorem overs_Check_con {l_222 : List (List UInt8 × Int × Int × Int)} {r : Int} (h : overs_Check l_222 = some r) : Con Go.Proofs.Tryd.prog 11 [AV.list (Ty.prod Ty.str (Ty.prod (Ty.int IntKind.i64) (Ty.prod (Ty.int IntKind.i64) (Ty.int IntKind.i64)))) l_222 Bool.false] [] (overs_Check_res r) (overs_Check_out r) := by
  refine W.con (by kernel_rfl) ?_
  unfold overs_Check at h
  refine W.cond 0 100000 h (by kernel_rfl) (fun h => ?_) (fun h => ?_)
  ·
    exact W.retT 0 100000 h (by kernel_rfl)
  ·
    refine W.at 0 100000 [] [0, 8, 9, 10] (c' := (fun (s_307 : Int) => (Cfg.mk Mode.run (headTodo Go.Proofs.Tryd.prog 11 0) (St.mk [AV.list (Ty.prod Ty.str (Ty.prod (Ty.int IntKind.i64) (Ty.prod (Ty.int IntKind.i64) (Ty.int IntKind.i64)))) l_222 Bool.false, jj, jj, jj, jj, jj, jj, jj, AV.list (Ty.prod Ty.str (Ty.prod (Ty.int IntKind.i64) (Ty.prod (Ty.int IntKind.i64) (Ty.int IntKind.i64)))) l_222 Bool.false, AV.int IntKind.i64 (↑(List.length l_222) : Int), AV.int IntKind.i64 s_307, jj, jj, jj, jj, jj, jj, jj, jj, jj, jj, jj, jj, jj, jj, jj, jj, jj, jj, jj, jj, jj, jj, jj] [] (0 : Nat)))) ((0 : Int))) (by kernel_rfl) ?_
    refine W.loop (fun (s_307 : Int) => (Cfg.mk Mode.run (headTodo Go.Proofs.Tryd.prog 11 0) (St.mk [AV.list (Ty.prod Ty.str (Ty.prod (Ty.int IntKind.i64) (Ty.prod (Ty.int IntKind.i64) (Ty.int IntKind.i64)))) l_222 Bool.false, jj, jj, jj, jj, jj, jj, jj, AV.list (Ty.prod Ty.str (Ty.prod (Ty.int IntKind.i64) (Ty.prod (Ty.int IntKind.i64) (Ty.int IntKind.i64)))) l_222 Bool.false, AV.int IntKind.i64 (↑(List.length l_222) : Int), AV.int IntKind.i64 s_307, jj, jj, jj, jj, jj, jj, jj, jj, jj, jj, jj, jj, jj, jj, jj, jj, jj, jj, jj, jj, jj, jj, jj] [] (0 : Nat)))) (fun t => (Sum.elim (fun t_301 => r = ((1 : Int))) (fun t_302 => Walk Go.Proofs.Tryd.prog 11 (Cfg.mk Mode.run ((headTodo Go.Proofs.Tryd.prog 11 0).drop 3) (St.mk [jj, jj, jj, jj, jj, jj, jj, jj, jj, jj, jj, jj, jj, jj, jj, jj, jj, jj, jj, jj, jj, jj, jj, jj, jj, jj, jj, jj, jj, jj, jj, jj, jj, jj] [] (0 : Nat))) (overs_Check_res r) (overs_Check_out r))) t) h (fun t h => ?_) (fun s_307 x304 h304 K304 => ?_)
    ·
      rcases t with t_301 | t_302
      · replace h := W.inl (h)
        refine W.elimL (?_)
        exact (Option.some.inj h).symm
      · replace h := W.inr (h)
        refine W.elimR (?_)
        exact W.retT 0 100000 h (by kernel_rfl)
    · unfold overs_Check_b0 at h304
      refine W.cond 2 100000 h304 (by kernel_rfl) (fun h304 => ?_) (fun h304 => ?_)
      ·
        refine W.needT 2 100000 h304 (by kernel_rfl) (fun h304 => ?_)
        refine W.bind h304 fun a_300 ha_300 h304 => ?_
        refine W.call 2 100000 (by kernel_rfl) (overs_Right_con ha_300) (by kernel_rfl) ?_
        refine W.cond 2 100000 h304 (by kernel_rfl) (fun h304 => ?_) (fun h304 => ?_)
        ·
          refine W.yes 2 100000 (by kernel_rfl) ?_
          refine W.yes 2 100000 (by kernel_rfl) ?_
          refine W.yes 2 100000 (by kernel_rfl) ?_
          refine W.yes 2 100000 (by kernel_rfl) ?_
          refine W.yes 2 100000 (by kernel_rfl) ?_
          cases h304; exact W.retK 2 100000 K304 (by kernel_rfl)
        ·
          refine W.no 2 100000 (by kernel_rfl) ?_
          refine W.no 2 100000 (by kernel_rfl) ?_
          refine W.cond 2 100000 h304 (by kernel_rfl) (fun h304 => ?_) (fun h304 => ?_)
          ·
            refine W.yes 2 100000 (by kernel_rfl) ?_
            refine W.yes 2 100000 (by kernel_rfl) ?_
            refine W.yes 2 100000 (by kernel_rfl) ?_
            refine W.needT 2 100000 h304 (by kernel_rfl) (fun h304 => ?_)
            refine W.yes 2 100000 (by kernel_rfl) ?_
            refine W.yes 2 100000 (by kernel_rfl) ?_
            refine W.yes 2 100000 (by kernel_rfl) ?_
            refine W.yes 2 100000 (by kernel_rfl) ?_
            refine W.yes 2 100000 (by kernel_rfl) ?_
            refine W.no 2 100000 (by kernel_rfl) ?_
            refine W.yes 2 100000 (by kernel_rfl) ?_
            refine W.no 2 100000 (by kernel_rfl) ?_
            refine W.cond 2 100000 h304 (by kernel_rfl) (fun h304 => ?_) (fun h304 => ?_)
            ·
              cases h304; exact W.retK 2 100000 K304 (by kernel_rfl)
            ·
              cases h304; exact W.at 2 100000 [] [0, 8, 9, 10] (by kernel_rfl) K304
          ·
            refine W.no 2 100000 (by kernel_rfl) ?_
            refine W.no 2 100000 (by kernel_rfl) ?_
            refine W.no 2 100000 (by kernel_rfl) ?_
            refine W.no 2 100000 (by kernel_rfl) ?_
            refine W.no 2 100000 (by kernel_rfl) ?_
            refine W.no 2 100000 (by kernel_rfl) ?_
            refine W.no 2 100000 (by kernel_rfl) ?_
            refine W.no 2 100000 (by kernel_rfl) ?_
            refine W.no 2 100000 (by kernel_rfl) ?_
            refine W.no 2 100000 (by kernel_rfl) ?_
            refine W.no 2 100000 (by kernel_rfl) ?_
            refine W.no 2 100000 (by kernel_rfl) ?_
            cases h304; exact W.at 2 100000 [] [0, 8, 9, 10] (by kernel_rfl) K304
      ·
        cases h304; exact W.at 2 100000 [] [] (by kernel_rfl) K304

theorem overs_Parse_con {s_11 : List UInt8} {r : Int × List (List UInt8 × Int × Int × Int)} (h : overs_Parse s_11 = some r) : Con Go.Proofs.Tryd.prog 13 [AV.str s_11] [] (overs_Parse_res r) (overs_Parse_out r) := by
  refine W.con (by kernel_rfl) ?_
  unfold overs_Parse at h
  refine W.bind h fun a_101 ha_101 h => ?_
  refine W.call 0 100000 (by kernel_rfl) (stanza_Lines_con ha_101) (by kernel_rfl) ?_
  refine W.cond 0 100000 h (by kernel_rfl) (fun h => ?_) (fun h => ?_)
  ·
    exact W.retT 0 100000 h (by kernel_rfl)
  ·
    refine W.at 0 100000 [Co.own 9 (Ty.prod Ty.str (Ty.prod (Ty.int IntKind.i64) (Ty.prod (Ty.int IntKind.i64) (Ty.int IntKind.i64))))] [6, 7, 8, 9, 27, 28, 29] (c' := (fun (s_314 : Int × Bool × List (List UInt8 × Int × Int × Int)) => (Cfg.mk Mode.run (headTodo Go.Proofs.Tryd.prog 13 0) (St.mk [jj, jj, jj, jj, jj, jj, AV.ptr (0 : Nat) (0 : Nat), AV.func (Go.Fn.func (32 : Nat)) [AV.ptr (0 : Nat) (0 : Nat)] [], AV.func (Go.Fn.func (33 : Nat)) [AV.ptr (0 : Nat) (0 : Nat)] [], AV.view (1 : Nat) (0 : Nat) Option.none, jj, jj, jj, jj, jj, jj, jj, jj, jj, jj, jj, jj, jj, jj, jj, jj, jj, AV.view (2 : Nat) (0 : Nat) Option.none, AV.int IntKind.i64 ((↑(List.length (Prod.snd a_101)) : Int) - (↑(0 : Nat) : Int)), AV.int IntKind.i64 (Prod.fst s_314), jj, jj, jj, jj, jj, jj, jj, jj, jj, jj, jj, jj, jj, jj, jj, jj, jj, jj, jj, jj, jj, jj, jj, jj, jj, jj, jj, jj, jj, jj, jj, jj, jj, jj, jj, jj, jj, jj, jj, jj, jj, jj] [AO.box [AV.bool (Prod.fst (Prod.snd s_314))], AO.row (Ty.prod Ty.str (Ty.prod (Ty.int IntKind.i64) (Ty.prod (Ty.int IntKind.i64) (Ty.int IntKind.i64)))) (Prod.snd (Prod.snd s_314)), AO.row Ty.str (Prod.snd a_101)] (0 : Nat)))) ((0 : Int), Bool.false, [])) (by kernel_rfl) ?_
    refine W.loop (fun (s_314 : Int × Bool × List (List UInt8 × Int × Int × Int)) => (Cfg.mk Mode.run (headTodo Go.Proofs.Tryd.prog 13 0) (St.mk [jj, jj, jj, jj, jj, jj, AV.ptr (0 : Nat) (0 : Nat), AV.func (Go.Fn.func (32 : Nat)) [AV.ptr (0 : Nat) (0 : Nat)] [], AV.func (Go.Fn.func (33 : Nat)) [AV.ptr (0 : Nat) (0 : Nat)] [], AV.view (1 : Nat) (0 : Nat) Option.none, jj, jj, jj, jj, jj, jj, jj, jj, jj, jj, jj, jj, jj, jj, jj, jj, jj, AV.view (2 : Nat) (0 : Nat) Option.none, AV.int IntKind.i64 ((↑(List.length (Prod.snd a_101)) : Int) - (↑(0 : Nat) : Int)), AV.int IntKind.i64 (Prod.fst s_314), jj, jj, jj, jj, jj, jj, jj, jj, jj, jj, jj, jj, jj, jj, jj, jj, jj, jj, jj, jj, jj, jj, jj, jj, jj, jj, jj, jj, jj, jj, jj, jj, jj, jj, jj, jj, jj, jj, jj, jj, jj, jj] [AO.box [AV.bool (Prod.fst (Prod.snd s_314))], AO.row (Ty.prod Ty.str (Ty.prod (Ty.int IntKind.i64) (Ty.prod (Ty.int IntKind.i64) (Ty.int IntKind.i64)))) (Prod.snd (Prod.snd s_314)), AO.row Ty.str (Prod.snd a_101)] (0 : Nat)))) (fun t => (Sum.elim (fun t_218 => r = ((2 : Int), [])) (fun t_221 => Walk Go.Proofs.Tryd.prog 13 (Cfg.mk Mode.run ((headTodo Go.Proofs.Tryd.prog 13 0).drop 3) (St.mk [jj, jj, jj, jj, jj, jj, AV.ptr (0 : Nat) (0 : Nat), jj, jj, AV.view (1 : Nat) (0 : Nat) Option.none, jj, jj, jj, jj, jj, jj, jj, jj, jj, jj, jj, jj, jj, jj, jj, jj, jj, jj, jj, jj, jj, jj, jj, jj, jj, jj, jj, jj, jj, jj, jj, jj, jj, jj, jj, jj, jj, jj, jj, jj, jj, jj, jj, jj, jj, jj, jj, jj, jj, jj, jj, jj, jj, jj, jj, jj, jj, jj, jj, jj, jj, jj] [AO.box [AV.bool (Prod.fst t_221)], AO.row (Ty.prod Ty.str (Ty.prod (Ty.int IntKind.i64) (Ty.prod (Ty.int IntKind.i64) (Ty.int IntKind.i64)))) (Prod.snd t_221)] (0 : Nat))) (overs_Parse_res r) (overs_Parse_out r))) t) h (fun t h => ?_) (fun s_314 x310 h310 K310 => ?_)
    ·
      rcases t with t_218 | t_221
      · replace h := W.inl (h)
        refine W.elimL (?_)
        exact (Option.some.inj h).symm
      · replace h := W.inr (h)
        refine W.elimR (?_)
        refine W.cond 0 100000 h (by kernel_rfl) (fun h => ?_) (fun h => ?_)
        ·
          refine W.yes 0 100000 (by kernel_rfl) ?_
          refine W.yes 0 100000 (by kernel_rfl) ?_
          refine W.yes 0 100000 (by kernel_rfl) ?_
          refine W.yes 0 100000 (by kernel_rfl) ?_
          exact W.retT 0 100000 h (by kernel_rfl)
        ·
          refine W.no 0 100000 (by kernel_rfl) ?_
          refine W.bind h fun a_308 ha_308 h => ?_
          refine W.call 0 100000 (by kernel_rfl) (overs_Check_con ha_308) (by kernel_rfl) ?_
          refine W.no 0 100000 (by kernel_rfl) ?_
          refine W.no 0 100000 (by kernel_rfl) ?_
          refine W.cond 0 100000 h (by kernel_rfl) (fun h => ?_) (fun h => ?_)
          ·
            exact W.retT 0 100000 h (by kernel_rfl)
          ·
            exact W.retT 0 100000 h (by kernel_rfl)
    · unfold overs_Parse_b0 at h310
      refine W.cond 2 100000 h310 (by kernel_rfl) (fun h310 => ?_) (fun h310 => ?_)
      ·
        refine W.needT 2 100000 h310 (by kernel_rfl) (fun h310 => ?_)
        refine W.needT 2 100000 h310 (by kernel_rfl) (fun h310 => ?_)
        refine W.bind h310 fun a_214 ha_214 h310 => ?_
        refine W.call 2 100000 (by kernel_rfl) (strings_Split_con ha_214) (by kernel_rfl) ?_
        refine W.cond 2 100000 h310 (by kernel_rfl) (fun h310 => ?_) (fun h310 => ?_)
        ·
          cases h310; exact W.retK 2 100000 K310 (by kernel_rfl)
        ·
          refine W.needT 2 100000 h310 (by kernel_rfl) (fun h310 => ?_)
          refine W.needT 2 100000 h310 (by kernel_rfl) (fun h310 => ?_)
          refine W.needT 2 100000 h310 (by kernel_rfl) (fun h310 => ?_)
          refine W.needT 2 100000 h310 (by kernel_rfl) (fun h310 => ?_)
          refine W.bind h310 fun a_215 ha_215 h310 => ?_
          refine W.call 2 100000 (by kernel_rfl) (overs_reader__id_con ha_215) (by kernel_rfl) ?_
          refine W.needT 2 100000 h310 (by kernel_rfl) (fun h310 => ?_)
          refine W.needT 2 100000 h310 (by kernel_rfl) (fun h310 => ?_)
          refine W.bind h310 fun a_216 ha_216 h310 => ?_
          refine W.call 2 100000 (by kernel_rfl) (overs_reader__id_con ha_216) (by kernel_rfl) ?_
          refine W.needT 2 100000 h310 (by kernel_rfl) (fun h310 => ?_)
          refine W.needT 2 100000 h310 (by kernel_rfl) (fun h310 => ?_)
          refine W.bind h310 fun a_217 ha_217 h310 => ?_
          refine W.call 2 100000 (by kernel_rfl) (overs_reader__mode_con ha_217) (by kernel_rfl) ?_
          refine W.needT 2 100000 h310 (by kernel_rfl) (fun h310 => ?_)
          cases h310; exact W.at 2 100000 [Co.own 9 (Ty.prod Ty.str (Ty.prod (Ty.int IntKind.i64) (Ty.prod (Ty.int IntKind.i64) (Ty.int IntKind.i64))))] [6, 7, 8, 9, 27, 28, 29] (by kernel_rfl) K310
      ·
        cases h310; exact W.at 2 100000 [] [6, 9] (by kernel_rfl) K310

theorem bits_Octal_con {mode_328 : Int} {r : List UInt8} (h : bits_Octal mode_328 = some r) : Con Go.Proofs.Tryd.prog 53 [AV.int IntKind.i64 mode_328] [] (bits_Octal_res r) (bits_Octal_out r) := by
  refine W.con (by kernel_rfl) ?_
  unfold bits_Octal at h
  refine W.at 0 100000 [] [0, 3, 5] (c' := (fun (s_338 : Int × List Int) => (Cfg.mk Mode.run (headTodo Go.Proofs.Tryd.prog 53 0) (St.mk [AV.int IntKind.i64 mode_328, jj, jj, AV.ptr (0 : Nat) (0 : Nat), jj, AV.int IntKind.i64 (Prod.fst s_338), jj, jj, jj, jj, jj, jj, jj, jj, jj, jj, jj, jj, jj, jj, jj] [AO.arr (Ty.int IntKind.u8) (Prod.snd s_338)] (0 : Nat)))) ((0 : Int), List.replicate (4 : Nat) (0 : Int))) (by kernel_rfl) ?_
  refine W.loop (fun (s_338 : Int × List Int) => (Cfg.mk Mode.run (headTodo Go.Proofs.Tryd.prog 53 0) (St.mk [AV.int IntKind.i64 mode_328, jj, jj, AV.ptr (0 : Nat) (0 : Nat), jj, AV.int IntKind.i64 (Prod.fst s_338), jj, jj, jj, jj, jj, jj, jj, jj, jj, jj, jj, jj, jj, jj, jj] [AO.arr (Ty.int IntKind.u8) (Prod.snd s_338)] (0 : Nat)))) (fun t_333 => Walk Go.Proofs.Tryd.prog 53 (Cfg.mk Mode.run ((headTodo Go.Proofs.Tryd.prog 53 0).drop 3) (St.mk [jj, jj, jj, AV.ptr (0 : Nat) (0 : Nat), jj, jj, jj, jj, jj, jj, jj, jj, jj, jj, jj, jj, jj, jj, jj, jj, jj] [AO.arr (Ty.int IntKind.u8) t_333] (0 : Nat))) (bits_Octal_res r) (bits_Octal_out r)) h (fun t_333 h => ?_) (fun s_338 x335 h335 K335 => ?_)
  ·
    refine W.needT 0 100000 h (by kernel_rfl) (fun h => ?_)
    exact W.retT 0 100000 h (by kernel_rfl)
  · unfold bits_Octal_b0 at h335
    refine W.cond 2 100000 h335 (by kernel_rfl) (fun h335 => ?_) (fun h335 => ?_)
    ·
      refine W.needT 2 100000 h335 (by kernel_rfl) (fun h335 => ?_)
      refine W.needT 2 100000 h335 (by kernel_rfl) (fun h335 => ?_)
      refine W.needT 2 100000 h335 (by kernel_rfl) (fun h335 => ?_)
      cases h335; exact W.at 2 100000 [] [0, 3, 5] (by kernel_rfl) K335
    ·
      cases h335; exact W.at 2 100000 [] [3] (by kernel_rfl) K335

theorem overs_line_con {x_322 : List UInt8} {x_323 : Int} {x_324 : Int} {x_325 : Int} {r : List UInt8} (h : overs_line x_322 x_323 x_324 x_325 = some r) : Con Go.Proofs.Tryd.prog 27 [AV.agg [AV.str x_322, AV.int IntKind.i64 x_323, AV.int IntKind.i64 x_324, AV.int IntKind.i64 x_325]] [] (overs_line_res r) (overs_line_out r) := by
  refine W.con (by kernel_rfl) ?_
  unfold overs_line at h
  refine W.bind h fun a_326 ha_326 h => ?_
  refine W.call 0 100000 (by kernel_rfl) (bits_Text_con ha_326) (by kernel_rfl) ?_
  refine W.needT 0 100000 h (by kernel_rfl) (fun h => ?_)
  refine W.needT 0 100000 h (by kernel_rfl) (fun h => ?_)
  refine W.bind h fun a_327 ha_327 h => ?_
  refine W.call 0 100000 (by kernel_rfl) (bits_Text_con ha_327) (by kernel_rfl) ?_
  refine W.needT 0 100000 h (by kernel_rfl) (fun h => ?_)
  refine W.needT 0 100000 h (by kernel_rfl) (fun h => ?_)
  refine W.bind h fun a_339 ha_339 h => ?_
  refine W.call 0 100000 (by kernel_rfl) (bits_Octal_con ha_339) (by kernel_rfl) ?_
  refine W.needT 0 100000 h (by kernel_rfl) (fun h => ?_)
  refine W.needT 0 100000 h (by kernel_rfl) (fun h => ?_)
  refine W.needT 0 100000 h (by kernel_rfl) (fun h => ?_)
  refine W.needT 0 100000 h (by kernel_rfl) (fun h => ?_)
  exact W.retT 0 100000 h (by kernel_rfl)

theorem overs_Print_con {l_316 : List (List UInt8 × Int × Int × Int)} {r : List UInt8 × Int} (h : overs_Print l_316 = some r) : Con Go.Proofs.Tryd.prog 9 [AV.list (Ty.prod Ty.str (Ty.prod (Ty.int IntKind.i64) (Ty.prod (Ty.int IntKind.i64) (Ty.int IntKind.i64)))) l_316 Bool.false] [] (overs_Print_res r) (overs_Print_out r) := by
  refine W.con (by kernel_rfl) ?_
  unfold overs_Print at h
  refine W.bind h fun a_317 ha_317 h => ?_
  refine W.call 0 100000 (by kernel_rfl) (overs_Check_con ha_317) (by kernel_rfl) ?_
  refine W.cond 0 100000 h (by kernel_rfl) (fun h => ?_) (fun h => ?_)
  ·
    exact W.retT 0 100000 h (by kernel_rfl)
  ·
    refine W.at 0 100000 [] [5, 13, 14, 15] (c' := (fun (s_352 : Int × List UInt8) => (Cfg.mk Mode.run (headTodo Go.Proofs.Tryd.prog 9 0) (St.mk [jj, jj, jj, jj, jj, AV.ptr (0 : Nat) (0 : Nat), jj, jj, jj, jj, jj, jj, jj, AV.list (Ty.prod Ty.str (Ty.prod (Ty.int IntKind.i64) (Ty.prod (Ty.int IntKind.i64) (Ty.int IntKind.i64)))) l_316 Bool.false, AV.int IntKind.i64 (↑(List.length l_316) : Int), AV.int IntKind.i64 (Prod.fst s_352), jj, jj, jj, jj, jj, jj, jj, jj] [AO.bld (52 : Nat) (AV.view (1 : Nat) (0 : Nat) Option.none), AO.buf (5 : Nat) (Prod.snd s_352)] (0 : Nat)))) ((0 : Int), [])) (by kernel_rfl) ?_
    refine W.loop (fun (s_352 : Int × List UInt8) => (Cfg.mk Mode.run (headTodo Go.Proofs.Tryd.prog 9 0) (St.mk [jj, jj, jj, jj, jj, AV.ptr (0 : Nat) (0 : Nat), jj, jj, jj, jj, jj, jj, jj, AV.list (Ty.prod Ty.str (Ty.prod (Ty.int IntKind.i64) (Ty.prod (Ty.int IntKind.i64) (Ty.int IntKind.i64)))) l_316 Bool.false, AV.int IntKind.i64 (↑(List.length l_316) : Int), AV.int IntKind.i64 (Prod.fst s_352), jj, jj, jj, jj, jj, jj, jj, jj] [AO.bld (52 : Nat) (AV.view (1 : Nat) (0 : Nat) Option.none), AO.buf (5 : Nat) (Prod.snd s_352)] (0 : Nat)))) (fun t_345 => Walk Go.Proofs.Tryd.prog 9 (Cfg.mk Mode.run ((headTodo Go.Proofs.Tryd.prog 9 0).drop 3) (St.mk [jj, jj, jj, jj, jj, AV.ptr (0 : Nat) (0 : Nat), jj, jj, jj, jj, jj, jj, jj, jj, jj, jj, jj, jj, jj, jj, jj, jj, jj, jj] [AO.bld (52 : Nat) (AV.view (1 : Nat) (0 : Nat) Option.none), AO.buf (5 : Nat) t_345] (0 : Nat))) (overs_Print_res r) (overs_Print_out r)) h (fun t_345 h => ?_) (fun s_352 x348 h348 K348 => ?_)
    ·
      refine W.bind h fun a_346 ha_346 h => ?_
      refine W.call 0 100000 (by kernel_rfl) (x__strings_Builder__String_con ha_346) (by kernel_rfl) ?_
      exact W.retT 0 100000 h (by kernel_rfl)
    · unfold overs_Print_b0 at h348
      refine W.cond 2 100000 h348 (by kernel_rfl) (fun h348 => ?_) (fun h348 => ?_)
      ·
        refine W.needT 2 100000 h348 (by kernel_rfl) (fun h348 => ?_)
        refine W.bind h348 fun a_342 ha_342 h348 => ?_
        refine W.call 2 100000 (by kernel_rfl) (overs_line_con ha_342) (by kernel_rfl) ?_
        refine W.bind h348 fun a_343 ha_343 h348 => ?_
        refine W.call 2 100000 (by kernel_rfl) (x__strings_Builder__WriteString_con ha_343) (by kernel_rfl) ?_
        cases h348; exact W.at 2 100000 [] [5, 13, 14, 15] (by kernel_rfl) K348
      ·
        cases h348; exact W.at 2 100000 [] [5] (by kernel_rfl) K348

theorem overs_Find_1_con {x_367 : List UInt8} {x_368 : Int} {x_369 : Int} {x_370 : Int} {o0_371 : List UInt8} {r : Bool × List UInt8} (h : overs_Find_1 x_367 x_368 x_369 x_370 o0_371 = some r) : Con Go.Proofs.Tryd.prog 46 [AV.agg [AV.str x_367, AV.int IntKind.i64 x_368, AV.int IntKind.i64 x_369, AV.int IntKind.i64 x_370], AV.ptr (0 : Nat) (0 : Nat)] [AO.box [AV.str o0_371]] (overs_Find_1_res r) (overs_Find_1_out r) := by
  refine W.con (by kernel_rfl) ?_
  unfold overs_Find_1 at h
  exact W.retT 0 100000 h (by kernel_rfl)

theorem api_Over__con {s_361 : List (List UInt8 × Int × Int × Int)} {o0_362 : List UInt8} {r : Int × List UInt8} (h : api_Over_ s_361 o0_362 = some r) : Con Go.Proofs.Tryd.prog 41 [AV.list (Ty.prod Ty.str (Ty.prod (Ty.int IntKind.i64) (Ty.prod (Ty.int IntKind.i64) (Ty.int IntKind.i64)))) s_361 Bool.false, AV.func (Go.Fn.func (46 : Nat)) [] [AV.ptr (0 : Nat) (0 : Nat)]] [AO.box [AV.str o0_362]] (api_Over__res r) (api_Over__out r) := by
  refine W.con (by kernel_rfl) ?_
  unfold api_Over_ at h
  refine W.at 0 100000 [] [0, 1, 7, 8] (c' := (fun (s_386 : Int × List UInt8) => (Cfg.mk Mode.run (headTodo Go.Proofs.Tryd.prog 41 0) (St.mk [AV.list (Ty.prod Ty.str (Ty.prod (Ty.int IntKind.i64) (Ty.prod (Ty.int IntKind.i64) (Ty.int IntKind.i64)))) s_361 Bool.false, AV.func (Go.Fn.func (46 : Nat)) [] [AV.ptr (0 : Nat) (0 : Nat)], jj, jj, jj, jj, jj, AV.int IntKind.i64 (↑(List.length s_361) : Int), AV.int IntKind.i64 (Prod.fst s_386), jj, jj, jj, jj, jj, jj, jj, jj, jj, jj] [AO.box [AV.str (Prod.snd s_386)]] (1 : Nat)))) ((0 : Int), o0_362)) (by kernel_rfl) ?_
  refine W.loop (fun (s_386 : Int × List UInt8) => (Cfg.mk Mode.run (headTodo Go.Proofs.Tryd.prog 41 0) (St.mk [AV.list (Ty.prod Ty.str (Ty.prod (Ty.int IntKind.i64) (Ty.prod (Ty.int IntKind.i64) (Ty.int IntKind.i64)))) s_361 Bool.false, AV.func (Go.Fn.func (46 : Nat)) [] [AV.ptr (0 : Nat) (0 : Nat)], jj, jj, jj, jj, jj, AV.int IntKind.i64 (↑(List.length s_361) : Int), AV.int IntKind.i64 (Prod.fst s_386), jj, jj, jj, jj, jj, jj, jj, jj, jj, jj] [AO.box [AV.str (Prod.snd s_386)]] (1 : Nat)))) (fun t => (Sum.elim (fun t_378 => r = (Prod.fst t_378, Prod.snd t_378)) (fun t_380 => Walk Go.Proofs.Tryd.prog 41 (Cfg.mk Mode.run ((headTodo Go.Proofs.Tryd.prog 41 0).drop 3) (St.mk [jj, jj, jj, jj, jj, jj, jj, jj, jj, jj, jj, jj, jj, jj, jj, jj, jj, jj, jj] [AO.box [AV.str t_380]] (1 : Nat))) (api_Over__res r) (api_Over__out r))) t) h (fun t h => ?_) (fun s_386 x382 h382 K382 => ?_)
  ·
    rcases t with t_378 | t_380
    · replace h := W.inl (h)
      refine W.elimL (?_)
      exact (Option.some.inj h).symm
    · replace h := W.inr (h)
      refine W.elimR (?_)
      exact W.retT 0 100000 h (by kernel_rfl)
  · unfold api_Over__b0 at h382
    refine W.cond 2 100000 h382 (by kernel_rfl) (fun h382 => ?_) (fun h382 => ?_)
    ·
      refine W.needT 2 100000 h382 (by kernel_rfl) (fun h382 => ?_)
      refine W.bind h382 fun a_375 ha_375 h382 => ?_
      refine W.call 2 100000 (by kernel_rfl) (overs_Find_1_con ha_375) (by kernel_rfl) ?_
      refine W.cond 2 100000 h382 (by kernel_rfl) (fun h382 => ?_) (fun h382 => ?_)
      ·
        cases h382; exact W.retK 2 100000 K382 (by kernel_rfl)
      ·
        cases h382; exact W.at 2 100000 [] [0, 1, 7, 8] (by kernel_rfl) K382
    ·
      cases h382; exact W.at 2 100000 [] [] (by kernel_rfl) K382

theorem overs_Find_con {l_359 : List (List UInt8 × Int × Int × Int)} {p_360 : List UInt8} {r : Int} (h : overs_Find l_359 p_360 = some r) : Con Go.Proofs.Tryd.prog 22 [AV.list (Ty.prod Ty.str (Ty.prod (Ty.int IntKind.i64) (Ty.prod (Ty.int IntKind.i64) (Ty.int IntKind.i64)))) l_359 Bool.false, AV.str p_360] [] (overs_Find_res r) (overs_Find_out r) := by
  refine W.con (by kernel_rfl) ?_
  unfold overs_Find at h
  refine W.bind h fun a_387 ha_387 h => ?_
  refine W.call 0 100000 (by kernel_rfl) (api_Over__con ha_387) (by kernel_rfl) ?_
  exact W.retT 0 100000 h (by kernel_rfl)

theorem overs_Meta_con {l_354 : List (List UInt8 × Int × Int × Int)} {p_355 : List UInt8} {m_356 : Int} {m_357 : Int} {m_358 : Int} {r : Int × Int × Int} (h : overs_Meta l_354 p_355 m_356 m_357 m_358 = some r) : Con Go.Proofs.Tryd.prog 16 [AV.list (Ty.prod Ty.str (Ty.prod (Ty.int IntKind.i64) (Ty.prod (Ty.int IntKind.i64) (Ty.int IntKind.i64)))) l_354 Bool.false, AV.str p_355, AV.agg [AV.int IntKind.i64 m_356, AV.int IntKind.i64 m_357, AV.int IntKind.i64 m_358]] [] (overs_Meta_res r) (overs_Meta_out r) := by
  refine W.con (by kernel_rfl) ?_
  unfold overs_Meta at h
  refine W.bind h fun a_390 ha_390 h => ?_
  refine W.call 0 100000 (by kernel_rfl) (overs_Find_con ha_390) (by kernel_rfl) ?_
  refine W.cond 0 100000 h (by kernel_rfl) (fun h => ?_) (fun h => ?_)
  ·
    refine W.needT 0 100000 h (by kernel_rfl) (fun h => ?_)
    exact W.retT 0 100000 h (by kernel_rfl)
  ·
    exact W.retT 0 100000 h (by kernel_rfl)

theorem cellarerlaw10_awake_con  {r : Bool} (h : cellarerlaw10_awake  = some r) : Con Go.Proofs.Tryd.prog 8 [] [] (cellarerlaw10_awake_res r) (cellarerlaw10_awake_out r) := by
  refine W.con (by kernel_rfl) ?_
  unfold cellarerlaw10_awake at h
  refine W.bind h fun a_315 ha_315 h => ?_
  refine W.call 0 100000 (by kernel_rfl) (overs_Parse_con ha_315) (by kernel_rfl) ?_
  refine W.bind h fun a_353 ha_353 h => ?_
  refine W.call 0 100000 (by kernel_rfl) (overs_Print_con ha_353) (by kernel_rfl) ?_
  refine W.cond 0 100000 h (by kernel_rfl) (fun h => ?_) (fun h => ?_)
  ·
    refine W.yes 0 100000 (by kernel_rfl) ?_
    refine W.yes 0 100000 (by kernel_rfl) ?_
    refine W.cond 0 100000 h (by kernel_rfl) (fun h => ?_) (fun h => ?_)
    ·
      refine W.yes 0 100000 (by kernel_rfl) ?_
      refine W.yes 0 100000 (by kernel_rfl) ?_
      refine W.cond 0 100000 h (by kernel_rfl) (fun h => ?_) (fun h => ?_)
      ·
        refine W.yes 0 100000 (by kernel_rfl) ?_
        refine W.yes 0 100000 (by kernel_rfl) ?_
        refine W.yes 0 100000 (by kernel_rfl) ?_
        refine W.cond 0 100000 h (by kernel_rfl) (fun h => ?_) (fun h => ?_)
        ·
          refine W.yes 0 100000 (by kernel_rfl) ?_
          refine W.needT 0 100000 h (by kernel_rfl) (fun h => ?_)
          refine W.yes 0 100000 (by kernel_rfl) ?_
          refine W.yes 0 100000 (by kernel_rfl) ?_
          refine W.needT 0 100000 h (by kernel_rfl) (fun h => ?_)
          refine W.yes 0 100000 (by kernel_rfl) ?_
          refine W.yes 0 100000 (by kernel_rfl) ?_
          refine W.yes 0 100000 (by kernel_rfl) ?_
          refine W.cond 0 100000 h (by kernel_rfl) (fun h => ?_) (fun h => ?_)
          ·
            refine W.yes 0 100000 (by kernel_rfl) ?_
            refine W.yes 0 100000 (by kernel_rfl) ?_
            refine W.bind h fun a_395 ha_395 h => ?_
            refine W.call 0 100000 (by kernel_rfl) (overs_Meta_con ha_395) (by kernel_rfl) ?_
            refine W.yes 0 100000 (by kernel_rfl) ?_
            refine W.yes 0 100000 (by kernel_rfl) ?_
            refine W.yes 0 100000 (by kernel_rfl) ?_
            refine W.cond 0 100000 h (by kernel_rfl) (fun h => ?_) (fun h => ?_)
            ·
              refine W.yes 0 100000 (by kernel_rfl) ?_
              refine W.needT 0 100000 h (by kernel_rfl) (fun h => ?_)
              refine W.yes 0 100000 (by kernel_rfl) ?_
              refine W.needT 0 100000 h (by kernel_rfl) (fun h => ?_)
              refine W.yes 0 100000 (by kernel_rfl) ?_
              refine W.bind h fun a_396 ha_396 h => ?_
              refine W.call 0 100000 (by kernel_rfl) (overs_Right_con ha_396) (by kernel_rfl) ?_
              refine W.yes 0 100000 (by kernel_rfl) ?_
              exact W.retT 0 100000 h (by kernel_rfl)
            ·
              refine W.no 0 100000 (by kernel_rfl) ?_
              refine W.no 0 100000 (by kernel_rfl) ?_
              refine W.no 0 100000 (by kernel_rfl) ?_
              refine W.no 0 100000 (by kernel_rfl) ?_
              exact W.retT 0 100000 h (by kernel_rfl)
          ·
            refine W.no 0 100000 (by kernel_rfl) ?_
            refine W.no 0 100000 (by kernel_rfl) ?_
            refine W.no 0 100000 (by kernel_rfl) ?_
            refine W.no 0 100000 (by kernel_rfl) ?_
            refine W.no 0 100000 (by kernel_rfl) ?_
            refine W.no 0 100000 (by kernel_rfl) ?_
            refine W.no 0 100000 (by kernel_rfl) ?_
            refine W.no 0 100000 (by kernel_rfl) ?_
            refine W.no 0 100000 (by kernel_rfl) ?_
            refine W.no 0 100000 (by kernel_rfl) ?_
            exact W.retT 0 100000 h (by kernel_rfl)
        ·
          refine W.no 0 100000 (by kernel_rfl) ?_
          refine W.no 0 100000 (by kernel_rfl) ?_
          refine W.no 0 100000 (by kernel_rfl) ?_
          refine W.no 0 100000 (by kernel_rfl) ?_
          refine W.no 0 100000 (by kernel_rfl) ?_
          refine W.no 0 100000 (by kernel_rfl) ?_
          refine W.no 0 100000 (by kernel_rfl) ?_
          refine W.no 0 100000 (by kernel_rfl) ?_
          refine W.no 0 100000 (by kernel_rfl) ?_
          refine W.no 0 100000 (by kernel_rfl) ?_
          refine W.no 0 100000 (by kernel_rfl) ?_
          refine W.no 0 100000 (by kernel_rfl) ?_
          refine W.no 0 100000 (by kernel_rfl) ?_
          refine W.no 0 100000 (by kernel_rfl) ?_
          refine W.no 0 100000 (by kernel_rfl) ?_
          refine W.no 0 100000 (by kernel_rfl) ?_
          refine W.no 0 100000 (by kernel_rfl) ?_
          exact W.retT 0 100000 h (by kernel_rfl)
      ·
        refine W.no 0 100000 (by kernel_rfl) ?_
        refine W.no 0 100000 (by kernel_rfl) ?_
        refine W.no 0 100000 (by kernel_rfl) ?_
        refine W.no 0 100000 (by kernel_rfl) ?_
        refine W.no 0 100000 (by kernel_rfl) ?_
        refine W.no 0 100000 (by kernel_rfl) ?_
        refine W.no 0 100000 (by kernel_rfl) ?_
        refine W.no 0 100000 (by kernel_rfl) ?_
        refine W.no 0 100000 (by kernel_rfl) ?_
        refine W.no 0 100000 (by kernel_rfl) ?_
        refine W.no 0 100000 (by kernel_rfl) ?_
        refine W.no 0 100000 (by kernel_rfl) ?_
        refine W.no 0 100000 (by kernel_rfl) ?_
        refine W.no 0 100000 (by kernel_rfl) ?_
        refine W.no 0 100000 (by kernel_rfl) ?_
        refine W.no 0 100000 (by kernel_rfl) ?_
        refine W.no 0 100000 (by kernel_rfl) ?_
        refine W.no 0 100000 (by kernel_rfl) ?_
        refine W.no 0 100000 (by kernel_rfl) ?_
        refine W.no 0 100000 (by kernel_rfl) ?_
        refine W.no 0 100000 (by kernel_rfl) ?_
        exact W.retT 0 100000 h (by kernel_rfl)
    ·
      refine W.no 0 100000 (by kernel_rfl) ?_
      refine W.no 0 100000 (by kernel_rfl) ?_
      refine W.no 0 100000 (by kernel_rfl) ?_
      refine W.no 0 100000 (by kernel_rfl) ?_
      refine W.no 0 100000 (by kernel_rfl) ?_
      refine W.no 0 100000 (by kernel_rfl) ?_
      refine W.no 0 100000 (by kernel_rfl) ?_
      refine W.no 0 100000 (by kernel_rfl) ?_
      refine W.no 0 100000 (by kernel_rfl) ?_
      refine W.no 0 100000 (by kernel_rfl) ?_
      refine W.no 0 100000 (by kernel_rfl) ?_
      refine W.no 0 100000 (by kernel_rfl) ?_
      refine W.no 0 100000 (by kernel_rfl) ?_
      refine W.no 0 100000 (by kernel_rfl) ?_
      refine W.no 0 100000 (by kernel_rfl) ?_
      refine W.no 0 100000 (by kernel_rfl) ?_
      refine W.no 0 100000 (by kernel_rfl) ?_
      refine W.no 0 100000 (by kernel_rfl) ?_
      refine W.no 0 100000 (by kernel_rfl) ?_
      refine W.no 0 100000 (by kernel_rfl) ?_
      refine W.no 0 100000 (by kernel_rfl) ?_
      refine W.no 0 100000 (by kernel_rfl) ?_
      refine W.no 0 100000 (by kernel_rfl) ?_
      refine W.no 0 100000 (by kernel_rfl) ?_
      exact W.retT 0 100000 h (by kernel_rfl)
  ·
    refine W.no 0 100000 (by kernel_rfl) ?_
    refine W.no 0 100000 (by kernel_rfl) ?_
    refine W.no 0 100000 (by kernel_rfl) ?_
    refine W.no 0 100000 (by kernel_rfl) ?_
    refine W.no 0 100000 (by kernel_rfl) ?_
    refine W.no 0 100000 (by kernel_rfl) ?_
    refine W.no 0 100000 (by kernel_rfl) ?_
    refine W.no 0 100000 (by kernel_rfl) ?_
    refine W.no 0 100000 (by kernel_rfl) ?_
    refine W.no 0 100000 (by kernel_rfl) ?_
    refine W.no 0 100000 (by kernel_rfl) ?_
    refine W.no 0 100000 (by kernel_rfl) ?_
    refine W.no 0 100000 (by kernel_rfl) ?_
    refine W.no 0 100000 (by kernel_rfl) ?_
    refine W.no 0 100000 (by kernel_rfl) ?_
    refine W.no 0 100000 (by kernel_rfl) ?_
    refine W.no 0 100000 (by kernel_rfl) ?_
    refine W.no 0 100000 (by kernel_rfl) ?_
    refine W.no 0 100000 (by kernel_rfl) ?_
    refine W.no 0 100000 (by kernel_rfl) ?_
    refine W.no 0 100000 (by kernel_rfl) ?_
    refine W.no 0 100000 (by kernel_rfl) ?_
    refine W.no 0 100000 (by kernel_rfl) ?_
    refine W.no 0 100000 (by kernel_rfl) ?_
    refine W.no 0 100000 (by kernel_rfl) ?_
    refine W.no 0 100000 (by kernel_rfl) ?_
    refine W.no 0 100000 (by kernel_rfl) ?_
    exact W.retT 0 100000 h (by kernel_rfl)

theorem cellarerref02_Parts_con {s_420 : List UInt8} {r : List (List UInt8)} (h : cellarerref02_Parts s_420 = some r) : Con Go.Proofs.Tryd.prog 77 [AV.str s_420] [] (cellarerref02_Parts_res r) (cellarerref02_Parts_out r) := by
  refine W.con (by kernel_rfl) ?_
  unfold cellarerref02_Parts at h
  refine W.at 0 100000 [Co.own 3 (Ty.str)] [0, 3, 4, 5] (c' := (fun (s_435 : List UInt8 × Int × List (List UInt8)) => (Cfg.mk Mode.run (headTodo Go.Proofs.Tryd.prog 77 0) (St.mk [AV.str s_420, jj, jj, AV.view (0 : Nat) (0 : Nat) Option.none, AV.str (Prod.fst s_435), AV.int IntKind.i64 (Prod.fst (Prod.snd s_435)), jj, jj, jj, jj, jj, jj, jj, jj, jj, jj, jj, jj, jj, jj, jj, jj, jj, jj, jj, jj, jj, jj, jj, jj, jj, jj, jj, jj, jj, jj] [AO.row Ty.str (Prod.snd (Prod.snd s_435))] (0 : Nat)))) ([], (0 : Int), [])) (by kernel_rfl) ?_
  refine W.loop (fun (s_435 : List UInt8 × Int × List (List UInt8)) => (Cfg.mk Mode.run (headTodo Go.Proofs.Tryd.prog 77 0) (St.mk [AV.str s_420, jj, jj, AV.view (0 : Nat) (0 : Nat) Option.none, AV.str (Prod.fst s_435), AV.int IntKind.i64 (Prod.fst (Prod.snd s_435)), jj, jj, jj, jj, jj, jj, jj, jj, jj, jj, jj, jj, jj, jj, jj, jj, jj, jj, jj, jj, jj, jj, jj, jj, jj, jj, jj, jj, jj, jj] [AO.row Ty.str (Prod.snd (Prod.snd s_435))] (0 : Nat)))) (fun t_430 => Walk Go.Proofs.Tryd.prog 77 (Cfg.mk Mode.run ((headTodo Go.Proofs.Tryd.prog 77 0).drop 3) (St.mk [jj, jj, jj, AV.view (0 : Nat) (0 : Nat) Option.none, AV.str (Prod.fst t_430), jj, jj, jj, jj, jj, jj, jj, jj, jj, jj, jj, jj, jj, jj, jj, jj, jj, jj, jj, jj, jj, jj, jj, jj, jj, jj, jj, jj, jj, jj, jj] [AO.row Ty.str (Prod.snd t_430)] (0 : Nat))) (cellarerref02_Parts_res r) (cellarerref02_Parts_out r)) h (fun t_430 h => ?_) (fun s_435 x432 h432 K432 => ?_)
  ·
    refine W.cond 0 100000 h (by kernel_rfl) (fun h => ?_) (fun h => ?_)
    ·
      refine W.needT 0 100000 h (by kernel_rfl) (fun h => ?_)
      exact W.retT 0 100000 h (by kernel_rfl)
    ·
      exact W.retT 0 100000 h (by kernel_rfl)
  · unfold cellarerref02_Parts_b0 at h432
    refine W.cond 2 100000 h432 (by kernel_rfl) (fun h432 => ?_) (fun h432 => ?_)
    ·
      refine W.needT 2 100000 h432 (by kernel_rfl) (fun h432 => ?_)
      refine W.cond 2 100000 h432 (by kernel_rfl) (fun h432 => ?_) (fun h432 => ?_)
      ·
        refine W.needT 2 100000 h432 (by kernel_rfl) (fun h432 => ?_)
        refine W.needT 2 100000 h432 (by kernel_rfl) (fun h432 => ?_)
        cases h432; exact W.at 2 100000 [Co.own 3 (Ty.str)] [0, 3, 4, 5] (by kernel_rfl) K432
      ·
        refine W.cond 2 100000 h432 (by kernel_rfl) (fun h432 => ?_) (fun h432 => ?_)
        ·
          refine W.needT 2 100000 h432 (by kernel_rfl) (fun h432 => ?_)
          cases h432; exact W.at 2 100000 [Co.own 3 (Ty.str)] [0, 3, 4, 5] (by kernel_rfl) K432
        ·
          cases h432; exact W.at 2 100000 [Co.own 3 (Ty.str)] [0, 3, 4, 5] (by kernel_rfl) K432
    ·
      cases h432; exact W.at 2 100000 [] [3, 4] (by kernel_rfl) K432

theorem cellarerref02_Joined_con {l_444 : List (List UInt8)} {r : List UInt8} (h : cellarerref02_Joined l_444 = some r) : Con Go.Proofs.Tryd.prog 78 [AV.list Ty.str l_444 Bool.false] [] (cellarerref02_Joined_res r) (cellarerref02_Joined_out r) := by
  refine W.con (by kernel_rfl) ?_
  unfold cellarerref02_Joined at h
  refine W.cond 0 100000 h (by kernel_rfl) (fun h => ?_) (fun h => ?_)
  ·
    exact W.retT 0 100000 h (by kernel_rfl)
  ·
    refine W.at 0 100000 [] [0, 3, 4] (c' := (fun (s_454 : List UInt8 × Int) => (Cfg.mk Mode.run (headTodo Go.Proofs.Tryd.prog 78 0) (St.mk [AV.list Ty.str l_444 Bool.false, jj, jj, AV.str (Prod.fst s_454), AV.int IntKind.i64 (Prod.snd s_454), jj, jj, jj, jj, jj, jj, jj, jj, jj, jj, jj, jj, jj, jj, jj, jj, jj] [] (0 : Nat)))) ([], (0 : Int))) (by kernel_rfl) ?_
    refine W.loop (fun (s_454 : List UInt8 × Int) => (Cfg.mk Mode.run (headTodo Go.Proofs.Tryd.prog 78 0) (St.mk [AV.list Ty.str l_444 Bool.false, jj, jj, AV.str (Prod.fst s_454), AV.int IntKind.i64 (Prod.snd s_454), jj, jj, jj, jj, jj, jj, jj, jj, jj, jj, jj, jj, jj, jj, jj, jj, jj] [] (0 : Nat)))) (fun t_449 => Walk Go.Proofs.Tryd.prog 78 (Cfg.mk Mode.run ((headTodo Go.Proofs.Tryd.prog 78 0).drop 3) (St.mk [jj, jj, jj, AV.str t_449, jj, jj, jj, jj, jj, jj, jj, jj, jj, jj, jj, jj, jj, jj, jj, jj, jj, jj] [] (0 : Nat))) (cellarerref02_Joined_res r) (cellarerref02_Joined_out r)) h (fun t_449 h => ?_) (fun s_454 x451 h451 K451 => ?_)
    ·
      exact W.retT 0 100000 h (by kernel_rfl)
    · unfold cellarerref02_Joined_b0 at h451
      refine W.cond 2 100000 h451 (by kernel_rfl) (fun h451 => ?_) (fun h451 => ?_)
      ·
        refine W.needT 2 100000 h451 (by kernel_rfl) (fun h451 => ?_)
        refine W.needT 2 100000 h451 (by kernel_rfl) (fun h451 => ?_)
        refine W.needT 2 100000 h451 (by kernel_rfl) (fun h451 => ?_)
        cases h451; exact W.at 2 100000 [] [0, 3, 4] (by kernel_rfl) K451
      ·
        cases h451; exact W.at 2 100000 [] [3] (by kernel_rfl) K451

theorem cellarerref02_Clean_con {s_413 : List UInt8} {r : List UInt8 × Int} (h : cellarerref02_Clean s_413 = some r) : Con Go.Proofs.Tryd.prog 64 [AV.str s_413] [] (cellarerref02_Clean_res r) (cellarerref02_Clean_out r) := by
  refine W.con (by kernel_rfl) ?_
  unfold cellarerref02_Clean at h
  refine W.join (fun t => (Sum.elim (fun t_414 => r = ([], (1 : Int))) (fun t_415 => Walk Go.Proofs.Tryd.prog 64 (Cfg.mk Mode.run (seqTodo Go.Proofs.Tryd.prog 64 1) (St.mk [AV.str s_413, jj, jj, jj, jj, jj, jj, jj, jj, jj, jj, jj, jj, jj, jj, jj, jj, jj, jj, jj, jj, jj, jj, jj, jj, jj, jj, jj, jj, jj, jj, jj, jj, jj, jj, jj, jj, jj, jj, jj, jj, jj, jj, jj, jj, jj, jj, jj, jj, jj, jj, jj, jj, jj, jj, jj, jj, jj, jj, jj, jj, jj, jj, jj, jj, jj, jj, jj, jj, jj, jj, jj] [] (0 : Nat))) (cellarerref02_Clean_res r) (cellarerref02_Clean_out r))) t) h (fun t h => ?_) (fun t459 h459 K459 => ?_)
  ·
    rcases t with t_414 | t_415
    · replace h := W.inl (h)
      refine W.elimL (?_)
      exact (Option.some.inj h).symm
    · replace h := W.inr (h)
      refine W.elimR (?_)
      refine W.at 0 100000 [] [0, 4] (c' := (fun (s_464 : Int) => (Cfg.mk Mode.run (headTodo Go.Proofs.Tryd.prog 64 0) (St.mk [AV.str s_413, jj, jj, jj, AV.int IntKind.i64 s_464, jj, jj, jj, jj, jj, jj, jj, jj, jj, jj, jj, jj, jj, jj, jj, jj, jj, jj, jj, jj, jj, jj, jj, jj, jj, jj, jj, jj, jj, jj, jj, jj, jj, jj, jj, jj, jj, jj, jj, jj, jj, jj, jj, jj, jj, jj, jj, jj, jj, jj, jj, jj, jj, jj, jj, jj, jj, jj, jj, jj, jj, jj, jj, jj, jj, jj, jj] [] (0 : Nat)))) ((0 : Int))) (by kernel_rfl) ?_
      refine W.loop (fun (s_464 : Int) => (Cfg.mk Mode.run (headTodo Go.Proofs.Tryd.prog 64 0) (St.mk [AV.str s_413, jj, jj, jj, AV.int IntKind.i64 s_464, jj, jj, jj, jj, jj, jj, jj, jj, jj, jj, jj, jj, jj, jj, jj, jj, jj, jj, jj, jj, jj, jj, jj, jj, jj, jj, jj, jj, jj, jj, jj, jj, jj, jj, jj, jj, jj, jj, jj, jj, jj, jj, jj, jj, jj, jj, jj, jj, jj, jj, jj, jj, jj, jj, jj, jj, jj, jj, jj, jj, jj, jj, jj, jj, jj, jj, jj] [] (0 : Nat)))) (fun t => (Sum.elim (fun t_418 => r = ([], (1 : Int))) (fun t_419 => Walk Go.Proofs.Tryd.prog 64 (Cfg.mk Mode.run ((headTodo Go.Proofs.Tryd.prog 64 0).drop 3) (St.mk [AV.str s_413, jj, jj, jj, jj, jj, jj, jj, jj, jj, jj, jj, jj, jj, jj, jj, jj, jj, jj, jj, jj, jj, jj, jj, jj, jj, jj, jj, jj, jj, jj, jj, jj, jj, jj, jj, jj, jj, jj, jj, jj, jj, jj, jj, jj, jj, jj, jj, jj, jj, jj, jj, jj, jj, jj, jj, jj, jj, jj, jj, jj, jj, jj, jj, jj, jj, jj, jj, jj, jj, jj, jj] [] (0 : Nat))) (cellarerref02_Clean_res r) (cellarerref02_Clean_out r))) t) h (fun t h => ?_) (fun s_464 x458 h458 K458 => ?_)
      ·
        rcases t with t_418 | t_419
        · replace h := W.inl (h)
          refine W.elimL (?_)
          exact (Option.some.inj h).symm
        · replace h := W.inr (h)
          refine W.elimR (?_)
          refine W.bind h fun a_436 ha_436 h => ?_
          refine W.call 0 100000 (by kernel_rfl) (cellarerref02_Parts_con ha_436) (by kernel_rfl) ?_
          refine W.at 0 100000 [Co.own 6 (Ty.str)] [5, 6, 7] (c' := (fun (s_465 : Int × List (List UInt8)) => (Cfg.mk Mode.run (headTodo Go.Proofs.Tryd.prog 64 1) (St.mk [jj, jj, jj, jj, jj, AV.view (0 : Nat) (0 : Nat) Option.none, AV.view (1 : Nat) (0 : Nat) Option.none, AV.int IntKind.i64 (Prod.fst s_465), jj, jj, jj, jj, jj, jj, jj, jj, jj, jj, jj, jj, jj, jj, jj, jj, jj, jj, jj, jj, jj, jj, jj, jj, jj, jj, jj, jj, jj, jj, jj, jj, jj, jj, jj, jj, jj, jj, jj, jj, jj, jj, jj, jj, jj, jj, jj, jj, jj, jj, jj, jj, jj, jj, jj, jj, jj, jj, jj, jj, jj, jj, jj, jj] [AO.row Ty.str a_436, AO.row Ty.str (Prod.snd s_465)] (0 : Nat)))) ((0 : Int), [])) (by kernel_rfl) ?_
          refine W.loop (fun (s_465 : Int × List (List UInt8)) => (Cfg.mk Mode.run (headTodo Go.Proofs.Tryd.prog 64 1) (St.mk [jj, jj, jj, jj, jj, AV.view (0 : Nat) (0 : Nat) Option.none, AV.view (1 : Nat) (0 : Nat) Option.none, AV.int IntKind.i64 (Prod.fst s_465), jj, jj, jj, jj, jj, jj, jj, jj, jj, jj, jj, jj, jj, jj, jj, jj, jj, jj, jj, jj, jj, jj, jj, jj, jj, jj, jj, jj, jj, jj, jj, jj, jj, jj, jj, jj, jj, jj, jj, jj, jj, jj, jj, jj, jj, jj, jj, jj, jj, jj, jj, jj, jj, jj, jj, jj, jj, jj, jj, jj, jj, jj, jj, jj] [AO.row Ty.str a_436, AO.row Ty.str (Prod.snd s_465)] (0 : Nat)))) (fun t_443 => Walk Go.Proofs.Tryd.prog 64 (Cfg.mk Mode.run ((headTodo Go.Proofs.Tryd.prog 64 1).drop 3) (St.mk [jj, jj, jj, jj, jj, jj, AV.view (0 : Nat) (0 : Nat) Option.none, jj, jj, jj, jj, jj, jj, jj, jj, jj, jj, jj, jj, jj, jj, jj, jj, jj, jj, jj, jj, jj, jj, jj, jj, jj, jj, jj, jj, jj, jj, jj, jj, jj, jj, jj, jj, jj, jj, jj, jj, jj, jj, jj, jj, jj, jj, jj, jj, jj, jj, jj, jj, jj, jj, jj, jj, jj, jj, jj, jj, jj, jj, jj, jj, jj] [AO.row Ty.str t_443] (0 : Nat))) (cellarerref02_Clean_res r) (cellarerref02_Clean_out r)) h (fun t_443 h => ?_) (fun s_465 x457 h457 K457 => ?_)
          ·
            refine W.bind h fun a_455 ha_455 h => ?_
            refine W.call 0 100000 (by kernel_rfl) (cellarerref02_Joined_con ha_455) (by kernel_rfl) ?_
            refine W.cond 0 100000 h (by kernel_rfl) (fun h => ?_) (fun h => ?_)
            ·
              exact W.retT 0 100000 h (by kernel_rfl)
            ·
              exact W.retT 0 100000 h (by kernel_rfl)
          · unfold cellarerref02_Clean_b1 at h457
            refine W.cond 2 100000 h457 (by kernel_rfl) (fun h457 => ?_) (fun h457 => ?_)
            ·
              refine W.needT 2 100000 h457 (by kernel_rfl) (fun h457 => ?_)
              refine W.needT 2 100000 h457 (by kernel_rfl) (fun h457 => ?_)
              refine W.cond 2 100000 h457 (by kernel_rfl) (fun h457 => ?_) (fun h457 => ?_)
              ·
                refine W.cond 2 100000 h457 (by kernel_rfl) (fun h457 => ?_) (fun h457 => ?_)
                ·
                  refine W.needT 2 100000 h457 (by kernel_rfl) (fun h457 => ?_)
                  cases h457; exact W.at 2 100000 [Co.own 6 (Ty.str)] [5, 6, 7] (by kernel_rfl) K457
                ·
                  cases h457; exact W.at 2 100000 [Co.own 6 (Ty.str)] [5, 6, 7] (by kernel_rfl) K457
              ·
                refine W.needT 2 100000 h457 (by kernel_rfl) (fun h457 => ?_)
                refine W.needT 2 100000 h457 (by kernel_rfl) (fun h457 => ?_)
                refine W.cond 2 100000 h457 (by kernel_rfl) (fun h457 => ?_) (fun h457 => ?_)
                ·
                  refine W.needT 2 100000 h457 (by kernel_rfl) (fun h457 => ?_)
                  refine W.needT 2 100000 h457 (by kernel_rfl) (fun h457 => ?_)
                  refine W.needT 2 100000 h457 (by kernel_rfl) (fun h457 => ?_)
                  cases h457; exact W.at 2 100000 [Co.own 6 (Ty.str)] [5, 6, 7] (by kernel_rfl) K457
                ·
                  cases h457; exact W.at 2 100000 [Co.own 6 (Ty.str)] [5, 6, 7] (by kernel_rfl) K457
            ·
              cases h457; exact W.at 2 100000 [] [6] (by kernel_rfl) K457
      · unfold cellarerref02_Clean_b0 at h458
        refine W.cond 2 100000 h458 (by kernel_rfl) (fun h458 => ?_) (fun h458 => ?_)
        ·
          refine W.needT 2 100000 h458 (by kernel_rfl) (fun h458 => ?_)
          refine W.cond 2 100000 h458 (by kernel_rfl) (fun h458 => ?_) (fun h458 => ?_)
          ·
            refine W.yes 2 100000 (by kernel_rfl) ?_
            refine W.yes 2 100000 (by kernel_rfl) ?_
            refine W.yes 2 100000 (by kernel_rfl) ?_
            refine W.yes 2 100000 (by kernel_rfl) ?_
            refine W.yes 2 100000 (by kernel_rfl) ?_
            cases h458; exact W.retK 2 100000 K458 (by kernel_rfl)
          ·
            refine W.no 2 100000 (by kernel_rfl) ?_
            refine W.no 2 100000 (by kernel_rfl) ?_
            refine W.needT 2 100000 h458 (by kernel_rfl) (fun h458 => ?_)
            refine W.no 2 100000 (by kernel_rfl) ?_
            refine W.no 2 100000 (by kernel_rfl) ?_
            refine W.cond 2 100000 h458 (by kernel_rfl) (fun h458 => ?_) (fun h458 => ?_)
            ·
              cases h458; exact W.retK 2 100000 K458 (by kernel_rfl)
            ·
              cases h458; exact W.at 2 100000 [] [0, 4] (by kernel_rfl) K458
        ·
          cases h458; exact W.at 2 100000 [] [0] (by kernel_rfl) K458
  · refine W.next 0 6 (by kernel_rfl) ?_
    refine W.cond 1 100000 h459 (by kernel_rfl) (fun h459 => ?_) (fun h459 => ?_)
    ·
      refine W.yes 1 100000 (by kernel_rfl) ?_
      refine W.yes 1 100000 (by kernel_rfl) ?_
      refine W.yes 1 100000 (by kernel_rfl) ?_
      refine W.yes 1 100000 (by kernel_rfl) ?_
      cases h459; exact W.retK 1 100000 K459 (by kernel_rfl)
    ·
      refine W.no 1 100000 (by kernel_rfl) ?_
      refine W.needT 1 100000 h459 (by kernel_rfl) (fun h459 => ?_)
      refine W.no 1 100000 (by kernel_rfl) ?_
      refine W.no 1 100000 (by kernel_rfl) ?_
      refine W.cond 1 100000 h459 (by kernel_rfl) (fun h459 => ?_) (fun h459 => ?_)
      ·
        cases h459; exact W.retK 1 100000 K459 (by kernel_rfl)
      ·
        cases h459; exact W.at 1 100000 [] [0] (by kernel_rfl) K459

theorem cellarerref02_Right_con {s_412 : List UInt8} {r : Bool} (h : cellarerref02_Right s_412 = some r) : Con Go.Proofs.Tryd.prog 49 [AV.str s_412] [] (cellarerref02_Right_res r) (cellarerref02_Right_out r) := by
  refine W.con (by kernel_rfl) ?_
  unfold cellarerref02_Right at h
  refine W.bind h fun a_466 ha_466 h => ?_
  refine W.call 0 100000 (by kernel_rfl) (cellarerref02_Clean_con ha_466) (by kernel_rfl) ?_
  refine W.cond 0 100000 h (by kernel_rfl) (fun h => ?_) (fun h => ?_)
  ·
    refine W.yes 0 100000 (by kernel_rfl) ?_
    refine W.yes 0 100000 (by kernel_rfl) ?_
    refine W.yes 0 100000 (by kernel_rfl) ?_
    exact W.retT 0 100000 h (by kernel_rfl)
  ·
    refine W.no 0 100000 (by kernel_rfl) ?_
    refine W.no 0 100000 (by kernel_rfl) ?_
    refine W.no 0 100000 (by kernel_rfl) ?_
    exact W.retT 0 100000 h (by kernel_rfl)

theorem cellarerref01_Right_con {m_470 : Int} {m_471 : Int} {m_472 : Int} {r : Bool} (h : cellarerref01_Right m_470 m_471 m_472 = some r) : Con Go.Proofs.Tryd.prog 50 [AV.agg [AV.int IntKind.i64 m_470, AV.int IntKind.i64 m_471, AV.int IntKind.i64 m_472]] [] (cellarerref01_Right_res r) (cellarerref01_Right_out r) := by
  refine W.con (by kernel_rfl) ?_
  unfold cellarerref01_Right at h
  refine W.cond 0 100000 h (by kernel_rfl) (fun h => ?_) (fun h => ?_)
  ·
    refine W.yes 0 100000 (by kernel_rfl) ?_
    refine W.yes 0 100000 (by kernel_rfl) ?_
    refine W.yes 0 100000 (by kernel_rfl) ?_
    refine W.cond 0 100000 h (by kernel_rfl) (fun h => ?_) (fun h => ?_)
    ·
      refine W.yes 0 100000 (by kernel_rfl) ?_
      refine W.yes 0 100000 (by kernel_rfl) ?_
      refine W.yes 0 100000 (by kernel_rfl) ?_
      refine W.cond 0 100000 h (by kernel_rfl) (fun h => ?_) (fun h => ?_)
      ·
        refine W.yes 0 100000 (by kernel_rfl) ?_
        refine W.yes 0 100000 (by kernel_rfl) ?_
        refine W.yes 0 100000 (by kernel_rfl) ?_
        refine W.cond 0 100000 h (by kernel_rfl) (fun h => ?_) (fun h => ?_)
        ·
          refine W.yes 0 100000 (by kernel_rfl) ?_
          refine W.yes 0 100000 (by kernel_rfl) ?_
          refine W.yes 0 100000 (by kernel_rfl) ?_
          refine W.cond 0 100000 h (by kernel_rfl) (fun h => ?_) (fun h => ?_)
          ·
            refine W.yes 0 100000 (by kernel_rfl) ?_
            refine W.yes 0 100000 (by kernel_rfl) ?_
            refine W.yes 0 100000 (by kernel_rfl) ?_
            exact W.retT 0 100000 h (by kernel_rfl)
          ·
            refine W.no 0 100000 (by kernel_rfl) ?_
            refine W.no 0 100000 (by kernel_rfl) ?_
            refine W.no 0 100000 (by kernel_rfl) ?_
            exact W.retT 0 100000 h (by kernel_rfl)
        ·
          refine W.no 0 100000 (by kernel_rfl) ?_
          refine W.no 0 100000 (by kernel_rfl) ?_
          refine W.no 0 100000 (by kernel_rfl) ?_
          refine W.no 0 100000 (by kernel_rfl) ?_
          refine W.no 0 100000 (by kernel_rfl) ?_
          refine W.no 0 100000 (by kernel_rfl) ?_
          refine W.no 0 100000 (by kernel_rfl) ?_
          exact W.retT 0 100000 h (by kernel_rfl)
      ·
        refine W.no 0 100000 (by kernel_rfl) ?_
        refine W.no 0 100000 (by kernel_rfl) ?_
        refine W.no 0 100000 (by kernel_rfl) ?_
        refine W.no 0 100000 (by kernel_rfl) ?_
        refine W.no 0 100000 (by kernel_rfl) ?_
        refine W.no 0 100000 (by kernel_rfl) ?_
        refine W.no 0 100000 (by kernel_rfl) ?_
        refine W.no 0 100000 (by kernel_rfl) ?_
        refine W.no 0 100000 (by kernel_rfl) ?_
        refine W.no 0 100000 (by kernel_rfl) ?_
        refine W.no 0 100000 (by kernel_rfl) ?_
        exact W.retT 0 100000 h (by kernel_rfl)
    ·
      refine W.no 0 100000 (by kernel_rfl) ?_
      refine W.no 0 100000 (by kernel_rfl) ?_
      refine W.no 0 100000 (by kernel_rfl) ?_
      refine W.no 0 100000 (by kernel_rfl) ?_
      refine W.no 0 100000 (by kernel_rfl) ?_
      refine W.no 0 100000 (by kernel_rfl) ?_
      refine W.no 0 100000 (by kernel_rfl) ?_
      refine W.no 0 100000 (by kernel_rfl) ?_
      refine W.no 0 100000 (by kernel_rfl) ?_
      refine W.no 0 100000 (by kernel_rfl) ?_
      refine W.no 0 100000 (by kernel_rfl) ?_
      refine W.no 0 100000 (by kernel_rfl) ?_
      refine W.no 0 100000 (by kernel_rfl) ?_
      refine W.no 0 100000 (by kernel_rfl) ?_
      refine W.no 0 100000 (by kernel_rfl) ?_
      exact W.retT 0 100000 h (by kernel_rfl)
  ·
    refine W.no 0 100000 (by kernel_rfl) ?_
    refine W.no 0 100000 (by kernel_rfl) ?_
    refine W.no 0 100000 (by kernel_rfl) ?_
    refine W.no 0 100000 (by kernel_rfl) ?_
    refine W.no 0 100000 (by kernel_rfl) ?_
    refine W.no 0 100000 (by kernel_rfl) ?_
    refine W.no 0 100000 (by kernel_rfl) ?_
    refine W.no 0 100000 (by kernel_rfl) ?_
    refine W.no 0 100000 (by kernel_rfl) ?_
    refine W.no 0 100000 (by kernel_rfl) ?_
    refine W.no 0 100000 (by kernel_rfl) ?_
    refine W.no 0 100000 (by kernel_rfl) ?_
    refine W.no 0 100000 (by kernel_rfl) ?_
    refine W.no 0 100000 (by kernel_rfl) ?_
    refine W.no 0 100000 (by kernel_rfl) ?_
    refine W.no 0 100000 (by kernel_rfl) ?_
    refine W.no 0 100000 (by kernel_rfl) ?_
    refine W.no 0 100000 (by kernel_rfl) ?_
    refine W.no 0 100000 (by kernel_rfl) ?_
    exact W.retT 0 100000 h (by kernel_rfl)

theorem cellarerref10_Right_con {x_408 : List UInt8} {x_409 : Int} {x_410 : Int} {x_411 : Int} {r : Bool} (h : cellarerref10_Right x_408 x_409 x_410 x_411 = some r) : Con Go.Proofs.Tryd.prog 25 [AV.agg [AV.str x_408, AV.int IntKind.i64 x_409, AV.int IntKind.i64 x_410, AV.int IntKind.i64 x_411]] [] (cellarerref10_Right_res r) (cellarerref10_Right_out r) := by
  refine W.con (by kernel_rfl) ?_
  unfold cellarerref10_Right at h
  refine W.bind h fun a_469 ha_469 h => ?_
  refine W.call 0 100000 (by kernel_rfl) (cellarerref02_Right_con ha_469) (by kernel_rfl) ?_
  refine W.cond 0 100000 h (by kernel_rfl) (fun h => ?_) (fun h => ?_)
  ·
    refine W.yes 0 100000 (by kernel_rfl) ?_
    refine W.yes 0 100000 (by kernel_rfl) ?_
    refine W.bind h fun a_475 ha_475 h => ?_
    refine W.call 0 100000 (by kernel_rfl) (cellarerref01_Right_con ha_475) (by kernel_rfl) ?_
    refine W.yes 0 100000 (by kernel_rfl) ?_
    exact W.retT 0 100000 h (by kernel_rfl)
  ·
    refine W.no 0 100000 (by kernel_rfl) ?_
    refine W.no 0 100000 (by kernel_rfl) ?_
    refine W.no 0 100000 (by kernel_rfl) ?_
    exact W.retT 0 100000 h (by kernel_rfl)

theorem cellarerref10_Check_con {l_405 : List (List UInt8 × Int × Int × Int)} {r : Int} (h : cellarerref10_Check l_405 = some r) : Con Go.Proofs.Tryd.prog 12 [AV.list (Ty.prod Ty.str (Ty.prod (Ty.int IntKind.i64) (Ty.prod (Ty.int IntKind.i64) (Ty.int IntKind.i64)))) l_405 Bool.false] [] (cellarerref10_Check_res r) (cellarerref10_Check_out r) := by
  refine W.con (by kernel_rfl) ?_
  unfold cellarerref10_Check at h
  refine W.cond 0 100000 h (by kernel_rfl) (fun h => ?_) (fun h => ?_)
  ·
    exact W.retT 0 100000 h (by kernel_rfl)
  ·
    refine W.at 0 100000 [] [0, 3] (c' := (fun (s_485 : Int) => (Cfg.mk Mode.run (headTodo Go.Proofs.Tryd.prog 12 0) (St.mk [AV.list (Ty.prod Ty.str (Ty.prod (Ty.int IntKind.i64) (Ty.prod (Ty.int IntKind.i64) (Ty.int IntKind.i64)))) l_405 Bool.false, jj, jj, AV.int IntKind.i64 s_485, jj, jj, jj, jj, jj, jj, jj, jj, jj, jj, jj, jj, jj, jj, jj, jj, jj, jj, jj, jj, jj, jj, jj, jj, jj, jj, jj, jj, jj, jj, jj, jj, jj] [] (0 : Nat)))) ((0 : Int))) (by kernel_rfl) ?_
    refine W.loop (fun (s_485 : Int) => (Cfg.mk Mode.run (headTodo Go.Proofs.Tryd.prog 12 0) (St.mk [AV.list (Ty.prod Ty.str (Ty.prod (Ty.int IntKind.i64) (Ty.prod (Ty.int IntKind.i64) (Ty.int IntKind.i64)))) l_405 Bool.false, jj, jj, AV.int IntKind.i64 s_485, jj, jj, jj, jj, jj, jj, jj, jj, jj, jj, jj, jj, jj, jj, jj, jj, jj, jj, jj, jj, jj, jj, jj, jj, jj, jj, jj, jj, jj, jj, jj, jj, jj] [] (0 : Nat)))) (fun t => (Sum.elim (fun t_479 => r = ((1 : Int))) (fun t_480 => Walk Go.Proofs.Tryd.prog 12 (Cfg.mk Mode.run ((headTodo Go.Proofs.Tryd.prog 12 0).drop 3) (St.mk [jj, jj, jj, jj, jj, jj, jj, jj, jj, jj, jj, jj, jj, jj, jj, jj, jj, jj, jj, jj, jj, jj, jj, jj, jj, jj, jj, jj, jj, jj, jj, jj, jj, jj, jj, jj, jj] [] (0 : Nat))) (cellarerref10_Check_res r) (cellarerref10_Check_out r))) t) h (fun t h => ?_) (fun s_485 x482 h482 K482 => ?_)
    ·
      rcases t with t_479 | t_480
      · replace h := W.inl (h)
        refine W.elimL (?_)
        exact (Option.some.inj h).symm
      · replace h := W.inr (h)
        refine W.elimR (?_)
        exact W.retT 0 100000 h (by kernel_rfl)
    · unfold cellarerref10_Check_b0 at h482
      refine W.cond 2 100000 h482 (by kernel_rfl) (fun h482 => ?_) (fun h482 => ?_)
      ·
        refine W.needT 2 100000 h482 (by kernel_rfl) (fun h482 => ?_)
        refine W.bind h482 fun a_478 ha_478 h482 => ?_
        refine W.call 2 100000 (by kernel_rfl) (cellarerref10_Right_con ha_478) (by kernel_rfl) ?_
        refine W.cond 2 100000 h482 (by kernel_rfl) (fun h482 => ?_) (fun h482 => ?_)
        ·
          refine W.yes 2 100000 (by kernel_rfl) ?_
          refine W.yes 2 100000 (by kernel_rfl) ?_
          refine W.yes 2 100000 (by kernel_rfl) ?_
          refine W.yes 2 100000 (by kernel_rfl) ?_
          refine W.yes 2 100000 (by kernel_rfl) ?_
          cases h482; exact W.retK 2 100000 K482 (by kernel_rfl)
        ·
          refine W.no 2 100000 (by kernel_rfl) ?_
          refine W.no 2 100000 (by kernel_rfl) ?_
          refine W.cond 2 100000 h482 (by kernel_rfl) (fun h482 => ?_) (fun h482 => ?_)
          ·
            refine W.yes 2 100000 (by kernel_rfl) ?_
            refine W.yes 2 100000 (by kernel_rfl) ?_
            refine W.yes 2 100000 (by kernel_rfl) ?_
            refine W.needT 2 100000 h482 (by kernel_rfl) (fun h482 => ?_)
            refine W.yes 2 100000 (by kernel_rfl) ?_
            refine W.yes 2 100000 (by kernel_rfl) ?_
            refine W.yes 2 100000 (by kernel_rfl) ?_
            refine W.yes 2 100000 (by kernel_rfl) ?_
            refine W.yes 2 100000 (by kernel_rfl) ?_
            refine W.needT 2 100000 h482 (by kernel_rfl) (fun h482 => ?_)
            refine W.yes 2 100000 (by kernel_rfl) ?_
            refine W.yes 2 100000 (by kernel_rfl) ?_
            refine W.yes 2 100000 (by kernel_rfl) ?_
            refine W.no 2 100000 (by kernel_rfl) ?_
            refine W.yes 2 100000 (by kernel_rfl) ?_
            refine W.no 2 100000 (by kernel_rfl) ?_
            refine W.cond 2 100000 h482 (by kernel_rfl) (fun h482 => ?_) (fun h482 => ?_)
            ·
              cases h482; exact W.retK 2 100000 K482 (by kernel_rfl)
            ·
              cases h482; exact W.at 2 100000 [] [0, 3] (by kernel_rfl) K482
          ·
            refine W.no 2 100000 (by kernel_rfl) ?_
            refine W.no 2 100000 (by kernel_rfl) ?_
            refine W.no 2 100000 (by kernel_rfl) ?_
            refine W.no 2 100000 (by kernel_rfl) ?_
            refine W.no 2 100000 (by kernel_rfl) ?_
            refine W.no 2 100000 (by kernel_rfl) ?_
            refine W.no 2 100000 (by kernel_rfl) ?_
            refine W.no 2 100000 (by kernel_rfl) ?_
            refine W.no 2 100000 (by kernel_rfl) ?_
            refine W.no 2 100000 (by kernel_rfl) ?_
            refine W.no 2 100000 (by kernel_rfl) ?_
            refine W.no 2 100000 (by kernel_rfl) ?_
            refine W.no 2 100000 (by kernel_rfl) ?_
            refine W.no 2 100000 (by kernel_rfl) ?_
            refine W.no 2 100000 (by kernel_rfl) ?_
            cases h482; exact W.at 2 100000 [] [0, 3] (by kernel_rfl) K482
      ·
        cases h482; exact W.at 2 100000 [] [] (by kernel_rfl) K482

theorem cellarerref01_Text_con {n_490 : Int} {r : List UInt8} (h : cellarerref01_Text n_490 = some r) : Con Go.Proofs.Tryd.prog 29 [AV.int IntKind.i64 n_490] [] (cellarerref01_Text_res r) (cellarerref01_Text_out r) := by
  refine W.con (by kernel_rfl) ?_
  unfold cellarerref01_Text at h
  refine W.join (fun t_492 => Walk Go.Proofs.Tryd.prog 29 (Cfg.mk Mode.run (seqTodo Go.Proofs.Tryd.prog 29 2) (St.mk [AV.int IntKind.i64 n_490, jj, jj, AV.int IntKind.u64 t_492, jj, jj, jj, jj, jj, jj, jj, jj, jj, jj, jj, jj, jj, jj, jj, jj, jj, jj, jj, jj, jj, jj, jj, jj, jj, jj, jj, jj, jj, jj] [] (0 : Nat))) (cellarerref01_Text_res r) (cellarerref01_Text_out r)) h (fun t_492 h => ?_) (fun t500 h500 K500 => ?_)
  ·
    refine W.need 0 100000 (p := (10 : Int) ≠ (0 : Int)) (by kernel_rfl) (by decide) ?_
    refine W.need 0 100000 (p := (10 : Int) ≠ (0 : Int)) (by kernel_rfl) (by decide) ?_
    refine W.at 0 100000 [] [0, 3, 4] (c' := (fun (s_503 : Int × List UInt8) => (Cfg.mk Mode.run (headTodo Go.Proofs.Tryd.prog 29 0) (St.mk [AV.int IntKind.i64 n_490, jj, jj, AV.int IntKind.u64 (Prod.fst s_503), AV.str (Prod.snd s_503), jj, jj, jj, jj, jj, jj, jj, jj, jj, jj, jj, jj, jj, jj, jj, jj, jj, jj, jj, jj, jj, jj, jj, jj, jj, jj, jj, jj, jj] [] (0 : Nat)))) (IntKind.wrap IntKind.u64 (Int.tdiv t_492 (10 : Int)), enc (IntKind.wrap IntKind.i32 (IntKind.wrap IntKind.u64 ((48 : Int) + Int.tmod t_492 (10 : Int)))))) (by kernel_rfl) ?_
    refine W.loop (fun (s_503 : Int × List UInt8) => (Cfg.mk Mode.run (headTodo Go.Proofs.Tryd.prog 29 0) (St.mk [AV.int IntKind.i64 n_490, jj, jj, AV.int IntKind.u64 (Prod.fst s_503), AV.str (Prod.snd s_503), jj, jj, jj, jj, jj, jj, jj, jj, jj, jj, jj, jj, jj, jj, jj, jj, jj, jj, jj, jj, jj, jj, jj, jj, jj, jj, jj, jj, jj] [] (0 : Nat)))) (fun t_497 => Walk Go.Proofs.Tryd.prog 29 (Cfg.mk Mode.run ((headTodo Go.Proofs.Tryd.prog 29 0).drop 3) (St.mk [AV.int IntKind.i64 n_490, jj, jj, jj, AV.str t_497, jj, jj, jj, jj, jj, jj, jj, jj, jj, jj, jj, jj, jj, jj, jj, jj, jj, jj, jj, jj, jj, jj, jj, jj, jj, jj, jj, jj, jj] [] (0 : Nat))) (cellarerref01_Text_res r) (cellarerref01_Text_out r)) h (fun t_497 h => ?_) (fun s_503 x499 h499 K499 => ?_)
    ·
      refine W.cond 0 100000 h (by kernel_rfl) (fun h => ?_) (fun h => ?_)
      ·
        refine W.needT 0 100000 h (by kernel_rfl) (fun h => ?_)
        exact W.retT 0 100000 h (by kernel_rfl)
      ·
        exact W.retT 0 100000 h (by kernel_rfl)
    · unfold cellarerref01_Text_b0 at h499
      refine W.cond 2 100000 h499 (by kernel_rfl) (fun h499 => ?_) (fun h499 => ?_)
      ·
        refine W.need 2 100000 (p := (10 : Int) ≠ (0 : Int)) (by kernel_rfl) (by decide) ?_
        refine W.needT 2 100000 h499 (by kernel_rfl) (fun h499 => ?_)
        refine W.need 2 100000 (p := (10 : Int) ≠ (0 : Int)) (by kernel_rfl) (by decide) ?_
        cases h499; exact W.at 2 100000 [] [0, 3, 4] (by kernel_rfl) K499
      ·
        cases h499; exact W.at 2 100000 [] [0, 4] (by kernel_rfl) K499
  · refine W.next 0 11 (by kernel_rfl) ?_
    refine W.cond 1 100000 h500 (by kernel_rfl) (fun h500 => ?_) (fun h500 => ?_)
    ·
      cases h500; exact W.at 1 100000 [] [0, 3] (by kernel_rfl) K500
    ·
      cases h500; exact W.at 1 100000 [] [0, 3] (by kernel_rfl) K500

theorem cellarerref01_Bit_con {n_514 : Int} {i_515 : Int} {r : Bool} (h : cellarerref01_Bit n_514 i_515 = some r) : Con Go.Proofs.Tryd.prog 66 [AV.int IntKind.i64 n_514, AV.int IntKind.i64 i_515] [] (cellarerref01_Bit_res r) (cellarerref01_Bit_out r) := by
  refine W.con (by kernel_rfl) ?_
  unfold cellarerref01_Bit at h
  refine W.needT 0 100000 h (by kernel_rfl) (fun h => ?_)
  refine W.need 0 100000 (p := (2 : Int) ≠ (0 : Int)) (by kernel_rfl) (by decide) ?_
  exact W.retT 0 100000 h (by kernel_rfl)

theorem cellarerref01_Low_con {n_507 : Int} {bits_508 : Int} {r : Int} (h : cellarerref01_Low n_507 bits_508 = some r) : Con Go.Proofs.Tryd.prog 54 [AV.int IntKind.i64 n_507, AV.int IntKind.i64 bits_508] [] (cellarerref01_Low_res r) (cellarerref01_Low_out r) := by
  refine W.con (by kernel_rfl) ?_
  unfold cellarerref01_Low at h
  refine W.at 0 100000 [] [0, 1, 5, 6, 7] (c' := (fun (s_525 : Int × Int × Int) => (Cfg.mk Mode.run (headTodo Go.Proofs.Tryd.prog 54 0) (St.mk [AV.int IntKind.i64 n_507, AV.int IntKind.i64 bits_508, jj, jj, jj, AV.int IntKind.i64 (Prod.fst s_525), AV.int IntKind.i64 (Prod.fst (Prod.snd s_525)), AV.int IntKind.i64 (Prod.snd (Prod.snd s_525)), jj, jj, jj, jj, jj, jj, jj, jj, jj, jj, jj, jj, jj, jj] [] (0 : Nat)))) ((0 : Int), (1 : Int), (0 : Int))) (by kernel_rfl) ?_
  refine W.loop (fun (s_525 : Int × Int × Int) => (Cfg.mk Mode.run (headTodo Go.Proofs.Tryd.prog 54 0) (St.mk [AV.int IntKind.i64 n_507, AV.int IntKind.i64 bits_508, jj, jj, jj, AV.int IntKind.i64 (Prod.fst s_525), AV.int IntKind.i64 (Prod.fst (Prod.snd s_525)), AV.int IntKind.i64 (Prod.snd (Prod.snd s_525)), jj, jj, jj, jj, jj, jj, jj, jj, jj, jj, jj, jj, jj, jj] [] (0 : Nat)))) (fun t_520 => Walk Go.Proofs.Tryd.prog 54 (Cfg.mk Mode.run ((headTodo Go.Proofs.Tryd.prog 54 0).drop 3) (St.mk [jj, jj, jj, jj, jj, AV.int IntKind.i64 t_520, jj, jj, jj, jj, jj, jj, jj, jj, jj, jj, jj, jj, jj, jj, jj, jj] [] (0 : Nat))) (cellarerref01_Low_res r) (cellarerref01_Low_out r)) h (fun t_520 h => ?_) (fun s_525 x522 h522 K522 => ?_)
  ·
    exact W.retT 0 100000 h (by kernel_rfl)
  · unfold cellarerref01_Low_b0 at h522
    refine W.cond 2 100000 h522 (by kernel_rfl) (fun h522 => ?_) (fun h522 => ?_)
    ·
      refine W.bind h522 fun a_518 ha_518 h522 => ?_
      refine W.call 2 100000 (by kernel_rfl) (cellarerref01_Bit_con ha_518) (by kernel_rfl) ?_
      refine W.cond 2 100000 h522 (by kernel_rfl) (fun h522 => ?_) (fun h522 => ?_)
      ·
        cases h522; exact W.at 2 100000 [] [0, 1, 5, 6, 7] (by kernel_rfl) K522
      ·
        cases h522; exact W.at 2 100000 [] [0, 1, 5, 6, 7] (by kernel_rfl) K522
    ·
      cases h522; exact W.at 2 100000 [] [5] (by kernel_rfl) K522

theorem cellarerref01_Octal_con {mode_506 : Int} {r : List UInt8} (h : cellarerref01_Octal mode_506 = some r) : Con Go.Proofs.Tryd.prog 30 [AV.int IntKind.i64 mode_506] [] (cellarerref01_Octal_res r) (cellarerref01_Octal_out r) := by
  refine W.con (by kernel_rfl) ?_
  unfold cellarerref01_Octal at h
  refine W.bind h fun a_526 ha_526 h => ?_
  refine W.call 0 100000 (by kernel_rfl) (cellarerref01_Low_con ha_526) (by kernel_rfl) ?_
  refine W.at 0 100000 [] [3, 4, 5] (c' := (fun (s_536 : Int × List UInt8 × Int) => (Cfg.mk Mode.run (headTodo Go.Proofs.Tryd.prog 30 0) (St.mk [jj, jj, jj, AV.int IntKind.i64 (Prod.fst s_536), AV.str (Prod.fst (Prod.snd s_536)), AV.int IntKind.i64 (Prod.snd (Prod.snd s_536)), jj, jj, jj, jj, jj, jj, jj, jj, jj, jj, jj, jj, jj, jj, jj, jj] [] (0 : Nat)))) (a_526, [], (0 : Int))) (by kernel_rfl) ?_
  refine W.loop (fun (s_536 : Int × List UInt8 × Int) => (Cfg.mk Mode.run (headTodo Go.Proofs.Tryd.prog 30 0) (St.mk [jj, jj, jj, AV.int IntKind.i64 (Prod.fst s_536), AV.str (Prod.fst (Prod.snd s_536)), AV.int IntKind.i64 (Prod.snd (Prod.snd s_536)), jj, jj, jj, jj, jj, jj, jj, jj, jj, jj, jj, jj, jj, jj, jj, jj] [] (0 : Nat)))) (fun t_531 => Walk Go.Proofs.Tryd.prog 30 (Cfg.mk Mode.run ((headTodo Go.Proofs.Tryd.prog 30 0).drop 3) (St.mk [jj, jj, jj, jj, AV.str t_531, jj, jj, jj, jj, jj, jj, jj, jj, jj, jj, jj, jj, jj, jj, jj, jj, jj] [] (0 : Nat))) (cellarerref01_Octal_res r) (cellarerref01_Octal_out r)) h (fun t_531 h => ?_) (fun s_536 x533 h533 K533 => ?_)
  ·
    exact W.retT 0 100000 h (by kernel_rfl)
  · unfold cellarerref01_Octal_b0 at h533
    refine W.cond 2 100000 h533 (by kernel_rfl) (fun h533 => ?_) (fun h533 => ?_)
    ·
      refine W.need 2 100000 (p := (8 : Int) ≠ (0 : Int)) (by kernel_rfl) (by decide) ?_
      refine W.needT 2 100000 h533 (by kernel_rfl) (fun h533 => ?_)
      refine W.need 2 100000 (p := (8 : Int) ≠ (0 : Int)) (by kernel_rfl) (by decide) ?_
      cases h533; exact W.at 2 100000 [] [3, 4, 5] (by kernel_rfl) K533
    ·
      cases h533; exact W.at 2 100000 [] [4] (by kernel_rfl) K533

theorem cellarerref10_Print_con {l_404 : List (List UInt8 × Int × Int × Int)} {r : List UInt8 × Int} (h : cellarerref10_Print l_404 = some r) : Con Go.Proofs.Tryd.prog 10 [AV.list (Ty.prod Ty.str (Ty.prod (Ty.int IntKind.i64) (Ty.prod (Ty.int IntKind.i64) (Ty.int IntKind.i64)))) l_404 Bool.false] [] (cellarerref10_Print_res r) (cellarerref10_Print_out r) := by
  refine W.con (by kernel_rfl) ?_
  unfold cellarerref10_Print at h
  refine W.bind h fun a_486 ha_486 h => ?_
  refine W.call 0 100000 (by kernel_rfl) (cellarerref10_Check_con ha_486) (by kernel_rfl) ?_
  refine W.cond 0 100000 h (by kernel_rfl) (fun h => ?_) (fun h => ?_)
  ·
    exact W.retT 0 100000 h (by kernel_rfl)
  ·
    refine W.at 0 100000 [] [0, 5, 6] (c' := (fun (s_545 : List UInt8 × Int) => (Cfg.mk Mode.run (headTodo Go.Proofs.Tryd.prog 10 0) (St.mk [AV.list (Ty.prod Ty.str (Ty.prod (Ty.int IntKind.i64) (Ty.prod (Ty.int IntKind.i64) (Ty.int IntKind.i64)))) l_404 Bool.false, jj, jj, jj, jj, AV.str (Prod.fst s_545), AV.int IntKind.i64 (Prod.snd s_545), jj, jj, jj, jj, jj, jj, jj, jj, jj, jj, jj, jj, jj, jj, jj, jj, jj, jj, jj, jj, jj, jj, jj, jj, jj, jj, jj, jj, jj, jj, jj, jj, jj, jj, jj, jj, jj, jj, jj, jj, jj, jj] [] (0 : Nat)))) ([], (0 : Int))) (by kernel_rfl) ?_
    refine W.loop (fun (s_545 : List UInt8 × Int) => (Cfg.mk Mode.run (headTodo Go.Proofs.Tryd.prog 10 0) (St.mk [AV.list (Ty.prod Ty.str (Ty.prod (Ty.int IntKind.i64) (Ty.prod (Ty.int IntKind.i64) (Ty.int IntKind.i64)))) l_404 Bool.false, jj, jj, jj, jj, AV.str (Prod.fst s_545), AV.int IntKind.i64 (Prod.snd s_545), jj, jj, jj, jj, jj, jj, jj, jj, jj, jj, jj, jj, jj, jj, jj, jj, jj, jj, jj, jj, jj, jj, jj, jj, jj, jj, jj, jj, jj, jj, jj, jj, jj, jj, jj, jj, jj, jj, jj, jj, jj, jj] [] (0 : Nat)))) (fun t_539 => Walk Go.Proofs.Tryd.prog 10 (Cfg.mk Mode.run ((headTodo Go.Proofs.Tryd.prog 10 0).drop 3) (St.mk [jj, jj, jj, jj, jj, AV.str t_539, jj, jj, jj, jj, jj, jj, jj, jj, jj, jj, jj, jj, jj, jj, jj, jj, jj, jj, jj, jj, jj, jj, jj, jj, jj, jj, jj, jj, jj, jj, jj, jj, jj, jj, jj, jj, jj, jj, jj, jj, jj, jj, jj] [] (0 : Nat))) (cellarerref10_Print_res r) (cellarerref10_Print_out r)) h (fun t_539 h => ?_) (fun s_545 x541 h541 K541 => ?_)
    ·
      exact W.retT 0 100000 h (by kernel_rfl)
    · unfold cellarerref10_Print_b0 at h541
      refine W.cond 2 100000 h541 (by kernel_rfl) (fun h541 => ?_) (fun h541 => ?_)
      ·
        refine W.needT 2 100000 h541 (by kernel_rfl) (fun h541 => ?_)
        refine W.needT 2 100000 h541 (by kernel_rfl) (fun h541 => ?_)
        refine W.bind h541 fun a_504 ha_504 h541 => ?_
        refine W.call 2 100000 (by kernel_rfl) (cellarerref01_Text_con ha_504) (by kernel_rfl) ?_
        refine W.needT 2 100000 h541 (by kernel_rfl) (fun h541 => ?_)
        refine W.needT 2 100000 h541 (by kernel_rfl) (fun h541 => ?_)
        refine W.bind h541 fun a_505 ha_505 h541 => ?_
        refine W.call 2 100000 (by kernel_rfl) (cellarerref01_Text_con ha_505) (by kernel_rfl) ?_
        refine W.needT 2 100000 h541 (by kernel_rfl) (fun h541 => ?_)
        refine W.needT 2 100000 h541 (by kernel_rfl) (fun h541 => ?_)
        refine W.bind h541 fun a_537 ha_537 h541 => ?_
        refine W.call 2 100000 (by kernel_rfl) (cellarerref01_Octal_con ha_537) (by kernel_rfl) ?_
        refine W.needT 2 100000 h541 (by kernel_rfl) (fun h541 => ?_)
        refine W.needT 2 100000 h541 (by kernel_rfl) (fun h541 => ?_)
        refine W.needT 2 100000 h541 (by kernel_rfl) (fun h541 => ?_)
        refine W.needT 2 100000 h541 (by kernel_rfl) (fun h541 => ?_)
        refine W.needT 2 100000 h541 (by kernel_rfl) (fun h541 => ?_)
        cases h541; exact W.at 2 100000 [] [0, 5, 6] (by kernel_rfl) K541
      ·
        cases h541; exact W.at 2 100000 [] [5] (by kernel_rfl) K541

theorem cellarerref10_Same_con {a_553 : List (List UInt8 × Int × Int × Int)} {b_554 : List (List UInt8 × Int × Int × Int)} {r : Bool} (h : cellarerref10_Same a_553 b_554 = some r) : Con Go.Proofs.Tryd.prog 14 [AV.list (Ty.prod Ty.str (Ty.prod (Ty.int IntKind.i64) (Ty.prod (Ty.int IntKind.i64) (Ty.int IntKind.i64)))) a_553 Bool.false, AV.list (Ty.prod Ty.str (Ty.prod (Ty.int IntKind.i64) (Ty.prod (Ty.int IntKind.i64) (Ty.int IntKind.i64)))) b_554 Bool.false] [] (cellarerref10_Same_res r) (cellarerref10_Same_out r) := by
  refine W.con (by kernel_rfl) ?_
  unfold cellarerref10_Same at h
  refine W.cond 0 100000 h (by kernel_rfl) (fun h => ?_) (fun h => ?_)
  ·
    exact W.retT 0 100000 h (by kernel_rfl)
  ·
    refine W.at 0 100000 [] [0, 1, 5] (c' := (fun (s_564 : Int) => (Cfg.mk Mode.run (headTodo Go.Proofs.Tryd.prog 14 0) (St.mk [AV.list (Ty.prod Ty.str (Ty.prod (Ty.int IntKind.i64) (Ty.prod (Ty.int IntKind.i64) (Ty.int IntKind.i64)))) a_553 Bool.false, AV.list (Ty.prod Ty.str (Ty.prod (Ty.int IntKind.i64) (Ty.prod (Ty.int IntKind.i64) (Ty.int IntKind.i64)))) b_554 Bool.false, jj, jj, jj, AV.int IntKind.i64 s_564, jj, jj, jj, jj, jj, jj, jj, jj, jj, jj, jj, jj, jj, jj, jj, jj, jj, jj, jj, jj] [] (0 : Nat)))) ((0 : Int))) (by kernel_rfl) ?_
    refine W.loop (fun (s_564 : Int) => (Cfg.mk Mode.run (headTodo Go.Proofs.Tryd.prog 14 0) (St.mk [AV.list (Ty.prod Ty.str (Ty.prod (Ty.int IntKind.i64) (Ty.prod (Ty.int IntKind.i64) (Ty.int IntKind.i64)))) a_553 Bool.false, AV.list (Ty.prod Ty.str (Ty.prod (Ty.int IntKind.i64) (Ty.prod (Ty.int IntKind.i64) (Ty.int IntKind.i64)))) b_554 Bool.false, jj, jj, jj, AV.int IntKind.i64 s_564, jj, jj, jj, jj, jj, jj, jj, jj, jj, jj, jj, jj, jj, jj, jj, jj, jj, jj, jj, jj] [] (0 : Nat)))) (fun t => (Sum.elim (fun t_558 => r = (Bool.false)) (fun t_559 => Walk Go.Proofs.Tryd.prog 14 (Cfg.mk Mode.run ((headTodo Go.Proofs.Tryd.prog 14 0).drop 3) (St.mk [jj, jj, jj, jj, jj, jj, jj, jj, jj, jj, jj, jj, jj, jj, jj, jj, jj, jj, jj, jj, jj, jj, jj, jj, jj, jj] [] (0 : Nat))) (cellarerref10_Same_res r) (cellarerref10_Same_out r))) t) h (fun t h => ?_) (fun s_564 x561 h561 K561 => ?_)
    ·
      rcases t with t_558 | t_559
      · replace h := W.inl (h)
        refine W.elimL (?_)
        exact (Option.some.inj h).symm
      · replace h := W.inr (h)
        refine W.elimR (?_)
        exact W.retT 0 100000 h (by kernel_rfl)
    · unfold cellarerref10_Same_b0 at h561
      refine W.cond 2 100000 h561 (by kernel_rfl) (fun h561 => ?_) (fun h561 => ?_)
      ·
        refine W.needT 2 100000 h561 (by kernel_rfl) (fun h561 => ?_)
        refine W.needT 2 100000 h561 (by kernel_rfl) (fun h561 => ?_)
        refine W.cond 2 100000 h561 (by kernel_rfl) (fun h561 => ?_) (fun h561 => ?_)
        ·
          cases h561; exact W.retK 2 100000 K561 (by kernel_rfl)
        ·
          cases h561; exact W.at 2 100000 [] [0, 1, 5] (by kernel_rfl) K561
      ·
        cases h561; exact W.at 2 100000 [] [] (by kernel_rfl) K561

theorem cellarerlaw10_OversPrints_con {l_400 : List (List UInt8 × Int × Int × Int)} {r : Bool} (h : cellarerlaw10_OversPrints l_400 = some r) : Con Go.Proofs.Tryd.prog 3 [AV.list (Ty.prod Ty.str (Ty.prod (Ty.int IntKind.i64) (Ty.prod (Ty.int IntKind.i64) (Ty.int IntKind.i64)))) l_400 Bool.false] [] (cellarerlaw10_OversPrints_res r) (cellarerlaw10_OversPrints_out r) := by
  refine W.con (by kernel_rfl) ?_
  unfold cellarerlaw10_OversPrints at h
  refine W.bind h fun a_401 ha_401 h => ?_
  refine W.call 0 100000 (by kernel_rfl) (cellarerlaw10_few_con ha_401) (by kernel_rfl) ?_
  refine W.cond 0 100000 h (by kernel_rfl) (fun h => ?_) (fun h => ?_)
  ·
    refine W.bind h fun a_402 ha_402 h => ?_
    refine W.call 0 100000 (by kernel_rfl) (cellarerlaw10_awake_con ha_402) (by kernel_rfl) ?_
    exact W.retT 0 100000 h (by kernel_rfl)
  ·
    refine W.bind h fun a_403 ha_403 h => ?_
    refine W.call 0 100000 (by kernel_rfl) (overs_Print_con ha_403) (by kernel_rfl) ?_
    refine W.bind h fun a_546 ha_546 h => ?_
    refine W.call 0 100000 (by kernel_rfl) (cellarerref10_Print_con ha_546) (by kernel_rfl) ?_
    refine W.join (fun t => (Sum.elim (fun t_549 => r = (Bool.false)) (fun t_550 => Walk Go.Proofs.Tryd.prog 3 (Cfg.mk Mode.run (seqTodo Go.Proofs.Tryd.prog 3 6) (St.mk [AV.list (Ty.prod Ty.str (Ty.prod (Ty.int IntKind.i64) (Ty.prod (Ty.int IntKind.i64) (Ty.int IntKind.i64)))) l_400 Bool.false, jj, jj, AV.str (Prod.fst a_403), AV.int IntKind.i64 (Prod.snd a_403), jj, jj, jj, jj, jj, jj, jj, jj, jj, jj, jj, jj, jj, jj, jj, jj, jj, jj, jj, jj, jj, jj, jj, jj, jj, jj, jj, jj, jj, jj, jj, jj, jj, jj, jj, jj, jj, jj, jj, jj, jj, jj, jj, jj, jj, jj, jj, jj, jj, jj, jj] [] (0 : Nat))) (cellarerlaw10_OversPrints_res r) (cellarerlaw10_OversPrints_out r))) t) h (fun t h => ?_) (fun t568 h568 K568 => ?_)
    ·
      rcases t with t_549 | t_550
      · replace h := W.inl (h)
        refine W.elimL (?_)
        exact (Option.some.inj h).symm
      · replace h := W.inr (h)
        refine W.elimR (?_)
        refine W.cond 0 100000 h (by kernel_rfl) (fun h => ?_) (fun h => ?_)
        ·
          refine W.bind h fun a_551 ha_551 h => ?_
          refine W.call 0 100000 (by kernel_rfl) (cellarerlaw10_awake_con ha_551) (by kernel_rfl) ?_
          exact W.retT 0 100000 h (by kernel_rfl)
        ·
          refine W.bind h fun a_552 ha_552 h => ?_
          refine W.call 0 100000 (by kernel_rfl) (overs_Parse_con ha_552) (by kernel_rfl) ?_
          refine W.cond 0 100000 h (by kernel_rfl) (fun h => ?_) (fun h => ?_)
          ·
            refine W.yes 0 100000 (by kernel_rfl) ?_
            refine W.yes 0 100000 (by kernel_rfl) ?_
            refine W.bind h fun a_565 ha_565 h => ?_
            refine W.call 0 100000 (by kernel_rfl) (cellarerref10_Same_con ha_565) (by kernel_rfl) ?_
            refine W.yes 0 100000 (by kernel_rfl) ?_
            refine W.cond 0 100000 h (by kernel_rfl) (fun h => ?_) (fun h => ?_)
            ·
              refine W.bind h fun a_566 ha_566 h => ?_
              refine W.call 0 100000 (by kernel_rfl) (cellarerlaw10_awake_con ha_566) (by kernel_rfl) ?_
              refine W.yes 0 100000 (by kernel_rfl) ?_
              exact W.retT 0 100000 h (by kernel_rfl)
            ·
              refine W.no 0 100000 (by kernel_rfl) ?_
              exact W.retT 0 100000 h (by kernel_rfl)
          ·
            refine W.no 0 100000 (by kernel_rfl) ?_
            refine W.no 0 100000 (by kernel_rfl) ?_
            refine W.no 0 100000 (by kernel_rfl) ?_
            refine W.no 0 100000 (by kernel_rfl) ?_
            refine W.no 0 100000 (by kernel_rfl) ?_
            exact W.retT 0 100000 h (by kernel_rfl)
    · refine W.next 0 7 (by kernel_rfl) ?_
      refine W.cond 1 100000 h568 (by kernel_rfl) (fun h568 => ?_) (fun h568 => ?_)
      ·
        refine W.yes 1 100000 (by kernel_rfl) ?_
        refine W.yes 1 100000 (by kernel_rfl) ?_
        refine W.yes 1 100000 (by kernel_rfl) ?_
        refine W.yes 1 100000 (by kernel_rfl) ?_
        refine W.yes 1 100000 (by kernel_rfl) ?_
        refine W.yes 1 100000 (by kernel_rfl) ?_
        refine W.yes 1 100000 (by kernel_rfl) ?_
        refine W.yes 1 100000 (by kernel_rfl) ?_
        refine W.yes 1 100000 (by kernel_rfl) ?_
        refine W.yes 1 100000 (by kernel_rfl) ?_
        cases h568; exact W.retK 1 100000 K568 (by kernel_rfl)
      ·
        refine W.no 1 100000 (by kernel_rfl) ?_
        refine W.no 1 100000 (by kernel_rfl) ?_
        refine W.no 1 100000 (by kernel_rfl) ?_
        refine W.cond 1 100000 h568 (by kernel_rfl) (fun h568 => ?_) (fun h568 => ?_)
        ·
          refine W.yes 1 100000 (by kernel_rfl) ?_
          refine W.yes 1 100000 (by kernel_rfl) ?_
          refine W.yes 1 100000 (by kernel_rfl) ?_
          refine W.yes 1 100000 (by kernel_rfl) ?_
          refine W.yes 1 100000 (by kernel_rfl) ?_
          refine W.yes 1 100000 (by kernel_rfl) ?_
          cases h568; exact W.retK 1 100000 K568 (by kernel_rfl)
        ·
          refine W.no 1 100000 (by kernel_rfl) ?_
          refine W.bind h568 fun a_547 ha_547 h568 => ?_
          refine W.call 1 100000 (by kernel_rfl) (overs_Check_con ha_547) (by kernel_rfl) ?_
          refine W.no 1 100000 (by kernel_rfl) ?_
          refine W.no 1 100000 (by kernel_rfl) ?_
          refine W.bind h568 fun a_548 ha_548 h568 => ?_
          refine W.call 1 100000 (by kernel_rfl) (cellarerref10_Check_con ha_548) (by kernel_rfl) ?_
          refine W.no 1 100000 (by kernel_rfl) ?_
          refine W.no 1 100000 (by kernel_rfl) ?_
          refine W.cond 1 100000 h568 (by kernel_rfl) (fun h568 => ?_) (fun h568 => ?_)
          ·
            cases h568; exact W.retK 1 100000 K568 (by kernel_rfl)
          ·
            cases h568; exact W.at 1 100000 [] [0, 3, 4] (by kernel_rfl) K568

theorem cellarerref06_Split_con {s_576 : List UInt8} {c_577 : Int} {r : List (List UInt8)} (h : cellarerref06_Split s_576 c_577 = some r) : Con Go.Proofs.Tryd.prog 36 [AV.str s_576, AV.int IntKind.u8 c_577] [] (cellarerref06_Split_res r) (cellarerref06_Split_out r) := by
  refine W.con (by kernel_rfl) ?_
  unfold cellarerref06_Split at h
  refine W.at 0 100000 [Co.own 5 (Ty.str)] [0, 1, 5, 6, 7] (c' := (fun (s_594 : List UInt8 × Int × List (List UInt8)) => (Cfg.mk Mode.run (headTodo Go.Proofs.Tryd.prog 36 0) (St.mk [AV.str s_576, AV.int IntKind.u8 c_577, jj, jj, jj, AV.view (0 : Nat) (0 : Nat) Option.none, AV.str (Prod.fst s_594), AV.int IntKind.i64 (Prod.fst (Prod.snd s_594)), jj, jj, jj, jj, jj, jj, jj, jj, jj, jj, jj, jj, jj, jj, jj, jj, jj, jj, jj, jj, jj, jj, jj, jj, jj, jj] [AO.row Ty.str (Prod.snd (Prod.snd s_594))] (0 : Nat)))) ([], (0 : Int), [])) (by kernel_rfl) ?_
  refine W.loop (fun (s_594 : List UInt8 × Int × List (List UInt8)) => (Cfg.mk Mode.run (headTodo Go.Proofs.Tryd.prog 36 0) (St.mk [AV.str s_576, AV.int IntKind.u8 c_577, jj, jj, jj, AV.view (0 : Nat) (0 : Nat) Option.none, AV.str (Prod.fst s_594), AV.int IntKind.i64 (Prod.fst (Prod.snd s_594)), jj, jj, jj, jj, jj, jj, jj, jj, jj, jj, jj, jj, jj, jj, jj, jj, jj, jj, jj, jj, jj, jj, jj, jj, jj, jj] [AO.row Ty.str (Prod.snd (Prod.snd s_594))] (0 : Nat)))) (fun t_589 => Walk Go.Proofs.Tryd.prog 36 (Cfg.mk Mode.run ((headTodo Go.Proofs.Tryd.prog 36 0).drop 3) (St.mk [jj, jj, jj, jj, jj, AV.view (0 : Nat) (0 : Nat) Option.none, AV.str (Prod.fst t_589), jj, jj, jj, jj, jj, jj, jj, jj, jj, jj, jj, jj, jj, jj, jj, jj, jj, jj, jj, jj, jj, jj, jj, jj, jj, jj, jj] [AO.row Ty.str (Prod.snd t_589)] (0 : Nat))) (cellarerref06_Split_res r) (cellarerref06_Split_out r)) h (fun t_589 h => ?_) (fun s_594 x591 h591 K591 => ?_)
  ·
    refine W.needT 0 100000 h (by kernel_rfl) (fun h => ?_)
    exact W.retT 0 100000 h (by kernel_rfl)
  · unfold cellarerref06_Split_b0 at h591
    refine W.cond 2 100000 h591 (by kernel_rfl) (fun h591 => ?_) (fun h591 => ?_)
    ·
      refine W.needT 2 100000 h591 (by kernel_rfl) (fun h591 => ?_)
      refine W.cond 2 100000 h591 (by kernel_rfl) (fun h591 => ?_) (fun h591 => ?_)
      ·
        refine W.needT 2 100000 h591 (by kernel_rfl) (fun h591 => ?_)
        cases h591; exact W.at 2 100000 [Co.own 5 (Ty.str)] [0, 1, 5, 6, 7] (by kernel_rfl) K591
      ·
        refine W.needT 2 100000 h591 (by kernel_rfl) (fun h591 => ?_)
        refine W.needT 2 100000 h591 (by kernel_rfl) (fun h591 => ?_)
        cases h591; exact W.at 2 100000 [Co.own 5 (Ty.str)] [0, 1, 5, 6, 7] (by kernel_rfl) K591
    ·
      cases h591; exact W.at 2 100000 [] [5, 6] (by kernel_rfl) K591

theorem cellarerref06_Lines_con {s_575 : List UInt8} {r : Bool × List (List UInt8)} (h : cellarerref06_Lines s_575 = some r) : Con Go.Proofs.Tryd.prog 35 [AV.str s_575] [] (cellarerref06_Lines_res r) (cellarerref06_Lines_out r) := by
  refine W.con (by kernel_rfl) ?_
  unfold cellarerref06_Lines at h
  refine W.bind h fun a_595 ha_595 h => ?_
  refine W.call 0 100000 (by kernel_rfl) (cellarerref06_Split_con ha_595) (by kernel_rfl) ?_
  refine W.needT 0 100000 h (by kernel_rfl) (fun h => ?_)
  refine W.needT 0 100000 h (by kernel_rfl) (fun h => ?_)
  refine W.needT 0 100000 h (by kernel_rfl) (fun h => ?_)
  exact W.retT 0 100000 h (by kernel_rfl)

theorem cellarerref10_behind_con {s_605 : List UInt8} {r : List UInt8} (h : cellarerref10_behind s_605 = some r) : Con Go.Proofs.Tryd.prog 38 [AV.str s_605] [] (cellarerref10_behind_res r) (cellarerref10_behind_out r) := by
  refine W.con (by kernel_rfl) ?_
  unfold cellarerref10_behind at h
  refine W.cond 0 100000 h (by kernel_rfl) (fun h => ?_) (fun h => ?_)
  ·
    exact W.retT 0 100000 h (by kernel_rfl)
  ·
    refine W.needT 0 100000 h (by kernel_rfl) (fun h => ?_)
    exact W.retT 0 100000 h (by kernel_rfl)

theorem cellarerref01_Int_con {s_609 : List UInt8} {r : Int × Bool} (h : cellarerref01_Int s_609 = some r) : Con Go.Proofs.Tryd.prog 37 [AV.str s_609] [] (cellarerref01_Int_res r) (cellarerref01_Int_out r) := by
  refine W.con (by kernel_rfl) ?_
  unfold cellarerref01_Int at h
  refine W.join (fun t_611 => Walk Go.Proofs.Tryd.prog 37 (Cfg.mk Mode.run (seqTodo Go.Proofs.Tryd.prog 37 2) (St.mk [AV.str s_609, jj, jj, jj, AV.int IntKind.u64 (0 : Int), AV.bool t_611, jj, jj, jj, jj, jj, jj, jj, jj, jj, jj, jj, jj, jj, jj, jj, jj, jj, jj, jj, jj, jj, jj, jj, jj, jj, jj, jj, jj, jj, jj, jj, jj, jj, jj, jj, jj, jj, jj, jj, jj] [] (0 : Nat))) (cellarerref01_Int_res r) (cellarerref01_Int_out r)) h (fun t_611 h => ?_) (fun t624 h624 K624 => ?_)
  ·
    refine W.cond 0 100000 h (by kernel_rfl) (fun h => ?_) (fun h => ?_)
    ·
      exact W.retT 0 100000 h (by kernel_rfl)
    ·
      refine W.at 0 100000 [] [0, 4, 5, 6] (c' := (fun (s_628 : Int × Int) => (Cfg.mk Mode.run (headTodo Go.Proofs.Tryd.prog 37 0) (St.mk [AV.str s_609, jj, jj, jj, AV.int IntKind.u64 (Prod.fst s_628), AV.bool t_611, AV.int IntKind.i64 (Prod.snd s_628), jj, jj, jj, jj, jj, jj, jj, jj, jj, jj, jj, jj, jj, jj, jj, jj, jj, jj, jj, jj, jj, jj, jj, jj, jj, jj, jj, jj, jj, jj, jj, jj, jj, jj, jj, jj, jj, jj, jj] [] (0 : Nat)))) ((0 : Int), (0 : Int))) (by kernel_rfl) ?_
      refine W.loop (fun (s_628 : Int × Int) => (Cfg.mk Mode.run (headTodo Go.Proofs.Tryd.prog 37 0) (St.mk [AV.str s_609, jj, jj, jj, AV.int IntKind.u64 (Prod.fst s_628), AV.bool t_611, AV.int IntKind.i64 (Prod.snd s_628), jj, jj, jj, jj, jj, jj, jj, jj, jj, jj, jj, jj, jj, jj, jj, jj, jj, jj, jj, jj, jj, jj, jj, jj, jj, jj, jj, jj, jj, jj, jj, jj, jj, jj, jj, jj, jj, jj, jj] [] (0 : Nat)))) (fun t_617 => Walk Go.Proofs.Tryd.prog 37 (Cfg.mk Mode.run ((headTodo Go.Proofs.Tryd.prog 37 0).drop 3) (St.mk [AV.str s_609, jj, jj, jj, AV.int IntKind.u64 t_617, AV.bool t_611, jj, jj, jj, jj, jj, jj, jj, jj, jj, jj, jj, jj, jj, jj, jj, jj, jj, jj, jj, jj, jj, jj, jj, jj, jj, jj, jj, jj, jj, jj, jj, jj, jj, jj, jj, jj, jj, jj, jj, jj] [] (0 : Nat))) (cellarerref01_Int_res r) (cellarerref01_Int_out r)) h (fun t_617 h => ?_) (fun s_628 x623 h623 K623 => ?_)
      ·
        refine W.join (fun t_619 => Walk Go.Proofs.Tryd.prog 37 (Cfg.mk Mode.run (seqTodo Go.Proofs.Tryd.prog 37 12) (St.mk [AV.str s_609, jj, jj, jj, AV.int IntKind.u64 t_619, jj, jj, jj, jj, jj, jj, jj, jj, jj, jj, jj, jj, jj, jj, jj, jj, jj, jj, jj, jj, jj, jj, jj, jj, jj, jj, jj, jj, jj, jj, jj, jj, jj, jj, jj, jj, jj, jj, jj, jj, jj] [] (0 : Nat))) (cellarerref01_Int_res r) (cellarerref01_Int_out r)) h (fun t_619 h => ?_) (fun t622 h622 K622 => ?_)
        ·
          refine W.bind h fun a_620 ha_620 h => ?_
          refine W.call 0 100000 (by kernel_rfl) (cellarerref01_Text_con ha_620) (by kernel_rfl) ?_
          refine W.cond 0 100000 h (by kernel_rfl) (fun h => ?_) (fun h => ?_)
          ·
            exact W.retT 0 100000 h (by kernel_rfl)
          ·
            exact W.retT 0 100000 h (by kernel_rfl)
        · refine W.next 0 1 (by kernel_rfl) ?_
          refine W.cond 1 100000 h622 (by kernel_rfl) (fun h622 => ?_) (fun h622 => ?_)
          ·
            cases h622; exact W.at 1 100000 [] [0, 4] (by kernel_rfl) K622
          ·
            cases h622; exact W.at 1 100000 [] [0, 4] (by kernel_rfl) K622
      · unfold cellarerref01_Int_b0 at h623
        refine W.cond 2 100000 h623 (by kernel_rfl) (fun h623 => ?_) (fun h623 => ?_)
        ·
          refine W.needT 2 100000 h623 (by kernel_rfl) (fun h623 => ?_)
          refine W.cond 2 100000 h623 (by kernel_rfl) (fun h623 => ?_) (fun h623 => ?_)
          ·
            refine W.needT 2 100000 h623 (by kernel_rfl) (fun h623 => ?_)
            cases h623; exact W.at 2 100000 [] [0, 4, 5, 6] (by kernel_rfl) K623
          ·
            cases h623; exact W.at 2 100000 [] [0, 4, 5, 6] (by kernel_rfl) K623
        ·
          cases h623; exact W.at 2 100000 [] [0, 4, 5] (by kernel_rfl) K623
  · refine W.next 0 10 (by kernel_rfl) ?_
    refine W.cond 1 100000 h624 (by kernel_rfl) (fun h624 => ?_) (fun h624 => ?_)
    ·
      refine W.yes 1 100000 (by kernel_rfl) ?_
      refine W.needT 1 100000 h624 (by kernel_rfl) (fun h624 => ?_)
      refine W.yes 1 100000 (by kernel_rfl) ?_
      refine W.yes 1 100000 (by kernel_rfl) ?_
      cases h624; exact W.at 1 100000 [] [0, 4, 5] (by kernel_rfl) K624
    ·
      refine W.no 1 100000 (by kernel_rfl) ?_
      refine W.no 1 100000 (by kernel_rfl) ?_
      refine W.no 1 100000 (by kernel_rfl) ?_
      cases h624; exact W.at 1 100000 [] [0, 4, 5] (by kernel_rfl) K624

theorem cellarerref01_ParseOctal_con {s_632 : List UInt8} {r : Int × Bool} (h : cellarerref01_ParseOctal s_632 = some r) : Con Go.Proofs.Tryd.prog 39 [AV.str s_632] [] (cellarerref01_ParseOctal_res r) (cellarerref01_ParseOctal_out r) := by
  refine W.con (by kernel_rfl) ?_
  unfold cellarerref01_ParseOctal at h
  refine W.at 0 100000 [] [0, 4, 5] (c' := (fun (s_647 : Int × Int) => (Cfg.mk Mode.run (headTodo Go.Proofs.Tryd.prog 39 0) (St.mk [AV.str s_632, jj, jj, jj, AV.int IntKind.i64 (Prod.fst s_647), AV.int IntKind.i64 (Prod.snd s_647), jj, jj, jj, jj, jj, jj, jj, jj, jj, jj, jj, jj, jj, jj, jj, jj, jj, jj, jj, jj, jj, jj, jj, jj, jj, jj, jj, jj, jj, jj, jj, jj] [] (0 : Nat)))) ((0 : Int), (0 : Int))) (by kernel_rfl) ?_
  refine W.loop (fun (s_647 : Int × Int) => (Cfg.mk Mode.run (headTodo Go.Proofs.Tryd.prog 39 0) (St.mk [AV.str s_632, jj, jj, jj, AV.int IntKind.i64 (Prod.fst s_647), AV.int IntKind.i64 (Prod.snd s_647), jj, jj, jj, jj, jj, jj, jj, jj, jj, jj, jj, jj, jj, jj, jj, jj, jj, jj, jj, jj, jj, jj, jj, jj, jj, jj, jj, jj, jj, jj, jj, jj] [] (0 : Nat)))) (fun t_640 => Walk Go.Proofs.Tryd.prog 39 (Cfg.mk Mode.run ((headTodo Go.Proofs.Tryd.prog 39 0).drop 3) (St.mk [AV.str s_632, jj, jj, jj, AV.int IntKind.i64 t_640, jj, jj, jj, jj, jj, jj, jj, jj, jj, jj, jj, jj, jj, jj, jj, jj, jj, jj, jj, jj, jj, jj, jj, jj, jj, jj, jj, jj, jj, jj, jj, jj, jj] [] (0 : Nat))) (cellarerref01_ParseOctal_res r) (cellarerref01_ParseOctal_out r)) h (fun t_640 h => ?_) (fun s_647 x643 h643 K643 => ?_)
  ·
    refine W.cond 0 100000 h (by kernel_rfl) (fun h => ?_) (fun h => ?_)
    ·
      refine W.yes 0 100000 (by kernel_rfl) ?_
      refine W.yes 0 100000 (by kernel_rfl) ?_
      refine W.yes 0 100000 (by kernel_rfl) ?_
      refine W.yes 0 100000 (by kernel_rfl) ?_
      refine W.yes 0 100000 (by kernel_rfl) ?_
      refine W.yes 0 100000 (by kernel_rfl) ?_
      refine W.yes 0 100000 (by kernel_rfl) ?_
      refine W.yes 0 100000 (by kernel_rfl) ?_
      exact W.retT 0 100000 h (by kernel_rfl)
    ·
      refine W.no 0 100000 (by kernel_rfl) ?_
      refine W.no 0 100000 (by kernel_rfl) ?_
      refine W.cond 0 100000 h (by kernel_rfl) (fun h => ?_) (fun h => ?_)
      ·
        refine W.yes 0 100000 (by kernel_rfl) ?_
        refine W.yes 0 100000 (by kernel_rfl) ?_
        refine W.yes 0 100000 (by kernel_rfl) ?_
        refine W.yes 0 100000 (by kernel_rfl) ?_
        refine W.yes 0 100000 (by kernel_rfl) ?_
        exact W.retT 0 100000 h (by kernel_rfl)
      ·
        refine W.no 0 100000 (by kernel_rfl) ?_
        refine W.bind h fun a_641 ha_641 h => ?_
        refine W.call 0 100000 (by kernel_rfl) (cellarerref01_Octal_con ha_641) (by kernel_rfl) ?_
        refine W.no 0 100000 (by kernel_rfl) ?_
        refine W.no 0 100000 (by kernel_rfl) ?_
        refine W.no 0 100000 (by kernel_rfl) ?_
        refine W.cond 0 100000 h (by kernel_rfl) (fun h => ?_) (fun h => ?_)
        ·
          exact W.retT 0 100000 h (by kernel_rfl)
        ·
          exact W.retT 0 100000 h (by kernel_rfl)
  · unfold cellarerref01_ParseOctal_b0 at h643
    refine W.join (fun t => (Sum.elim (fun t_636 => Walk Go.Proofs.Tryd.prog 39 (Cfg.mk Mode.run (seqTodo Go.Proofs.Tryd.prog 39 4) (St.mk [AV.str s_632, jj, jj, jj, AV.int IntKind.i64 (Prod.fst s_647), AV.int IntKind.i64 (Prod.snd s_647), jj, jj, jj, jj, jj, jj, jj, jj, jj, jj, jj, jj, jj, jj, jj, jj, jj, jj, jj, jj, jj, jj, jj, jj, jj, jj, jj, jj, jj, jj, jj, jj] [] (0 : Nat))) (cellarerref01_ParseOctal_res r) (cellarerref01_ParseOctal_out r)) (fun t_637 => Walk Go.Proofs.Tryd.prog 39 (Cfg.mk Mode.run ((seqTodo Go.Proofs.Tryd.prog 39 4).drop 3) (St.mk [AV.str s_632, jj, jj, jj, AV.int IntKind.i64 (Prod.fst s_647), jj, jj, jj, jj, jj, jj, jj, jj, jj, jj, jj, jj, jj, jj, jj, jj, jj, jj, jj, jj, jj, jj, jj, jj, jj, jj, jj, jj, jj, jj, jj, jj, jj] [] (0 : Nat))) (cellarerref01_ParseOctal_res r) (cellarerref01_ParseOctal_out r))) t) h643 (fun t h643 => ?_) (fun t639 h639 K639 => ?_)
    ·
      rcases t with t_636 | t_637
      · replace h643 := W.inl (h643)
        refine W.elimL (?_)
        refine W.needT 2 100000 h643 (by kernel_rfl) (fun h643 => ?_)
        cases h643; exact W.at 2 100000 [] [0, 4, 5] (by kernel_rfl) K643
      · replace h643 := W.inr (h643)
        refine W.elimR (?_)
        cases h643; exact W.at 2 100000 [] [0, 4] (by kernel_rfl) K643
    · refine W.next 2 1 (by kernel_rfl) ?_
      refine W.cond 4 100000 h639 (by kernel_rfl) (fun h639 => ?_) (fun h639 => ?_)
      ·
        refine W.yes 4 100000 (by kernel_rfl) ?_
        refine W.yes 4 100000 (by kernel_rfl) ?_
        refine W.cond 4 100000 h639 (by kernel_rfl) (fun h639 => ?_) (fun h639 => ?_)
        ·
          cases h639; exact W.at 4 100000 [] [0, 4, 5] (by kernel_rfl) K639
        ·
          cases h639; exact W.at 4 100000 [] [0, 4] (by kernel_rfl) K639
      ·
        refine W.no 4 100000 (by kernel_rfl) ?_
        refine W.no 4 100000 (by kernel_rfl) ?_
        refine W.no 4 100000 (by kernel_rfl) ?_
        cases h639; exact W.at 4 100000 [] [0, 4] (by kernel_rfl) K639

theorem cellarerref10_Parse_con {s_574 : List UInt8} {r : Bool × List (List UInt8 × Int × Int × Int)} (h : cellarerref10_Parse s_574 = some r) : Con Go.Proofs.Tryd.prog 15 [AV.str s_574] [] (cellarerref10_Parse_res r) (cellarerref10_Parse_out r) := by
  refine W.con (by kernel_rfl) ?_
  unfold cellarerref10_Parse at h
  refine W.bind h fun a_599 ha_599 h => ?_
  refine W.call 0 100000 (by kernel_rfl) (cellarerref06_Lines_con ha_599) (by kernel_rfl) ?_
  refine W.at 0 100000 [Co.own 4 (Ty.prod Ty.str (Ty.prod (Ty.int IntKind.i64) (Ty.prod (Ty.int IntKind.i64) (Ty.int IntKind.i64))))] [0, 4, 5, 6, 7] (c' := (fun (s_669 : Int × List (List UInt8 × Int × Int × Int)) => (Cfg.mk Mode.run (headTodo Go.Proofs.Tryd.prog 15 0) (St.mk [AV.str s_574, jj, jj, jj, AV.view (0 : Nat) (0 : Nat) Option.none, AV.view (1 : Nat) (0 : Nat) Option.none, AV.bool (Prod.fst a_599), AV.int IntKind.i64 (Prod.fst s_669), jj, jj, jj, jj, jj, jj, jj, jj, jj, jj, jj, jj, jj, jj, jj, jj, jj, jj, jj, jj, jj, jj, jj, jj, jj, jj, jj, jj, jj, jj, jj, jj, jj, jj, jj, jj, jj, jj, jj, jj, jj, jj, jj, jj, jj, jj, jj, jj, jj, jj, jj, jj, jj, jj, jj, jj, jj, jj, jj, jj, jj, jj, jj, jj, jj, jj, jj, jj, jj, jj, jj, jj, jj, jj, jj, jj, jj, jj, jj] [AO.row (Ty.prod Ty.str (Ty.prod (Ty.int IntKind.i64) (Ty.prod (Ty.int IntKind.i64) (Ty.int IntKind.i64)))) (Prod.snd s_669), AO.row Ty.str (Prod.snd a_599)] (0 : Nat)))) ((0 : Int), [])) (by kernel_rfl) ?_
  refine W.loop (fun (s_669 : Int × List (List UInt8 × Int × Int × Int)) => (Cfg.mk Mode.run (headTodo Go.Proofs.Tryd.prog 15 0) (St.mk [AV.str s_574, jj, jj, jj, AV.view (0 : Nat) (0 : Nat) Option.none, AV.view (1 : Nat) (0 : Nat) Option.none, AV.bool (Prod.fst a_599), AV.int IntKind.i64 (Prod.fst s_669), jj, jj, jj, jj, jj, jj, jj, jj, jj, jj, jj, jj, jj, jj, jj, jj, jj, jj, jj, jj, jj, jj, jj, jj, jj, jj, jj, jj, jj, jj, jj, jj, jj, jj, jj, jj, jj, jj, jj, jj, jj, jj, jj, jj, jj, jj, jj, jj, jj, jj, jj, jj, jj, jj, jj, jj, jj, jj, jj, jj, jj, jj, jj, jj, jj, jj, jj, jj, jj, jj, jj, jj, jj, jj, jj, jj, jj, jj, jj] [AO.row (Ty.prod Ty.str (Ty.prod (Ty.int IntKind.i64) (Ty.prod (Ty.int IntKind.i64) (Ty.int IntKind.i64)))) (Prod.snd s_669), AO.row Ty.str (Prod.snd a_599)] (0 : Nat)))) (fun t => (Sum.elim (fun t_660 => r = (Bool.false, [])) (fun t_662 => Walk Go.Proofs.Tryd.prog 15 (Cfg.mk Mode.run ((headTodo Go.Proofs.Tryd.prog 15 0).drop 3) (St.mk [AV.str s_574, jj, jj, jj, AV.view (0 : Nat) (0 : Nat) Option.none, jj, AV.bool (Prod.fst a_599), jj, jj, jj, jj, jj, jj, jj, jj, jj, jj, jj, jj, jj, jj, jj, jj, jj, jj, jj, jj, jj, jj, jj, jj, jj, jj, jj, jj, jj, jj, jj, jj, jj, jj, jj, jj, jj, jj, jj, jj, jj, jj, jj, jj, jj, jj, jj, jj, jj, jj, jj, jj, jj, jj, jj, jj, jj, jj, jj, jj, jj, jj, jj, jj, jj, jj, jj, jj, jj, jj, jj, jj, jj, jj, jj, jj, jj, jj, jj, jj] [AO.row (Ty.prod Ty.str (Ty.prod (Ty.int IntKind.i64) (Ty.prod (Ty.int IntKind.i64) (Ty.int IntKind.i64)))) t_662] (0 : Nat))) (cellarerref10_Parse_res r) (cellarerref10_Parse_out r))) t) h (fun t h => ?_) (fun s_669 x665 h665 K665 => ?_)
  ·
    rcases t with t_660 | t_662
    · replace h := W.inl (h)
      refine W.elimL (?_)
      exact (Option.some.inj h).symm
    · replace h := W.inr (h)
      refine W.elimR (?_)
      refine W.bind h fun a_663 ha_663 h => ?_
      refine W.call 0 100000 (by kernel_rfl) (cellarerref10_Print_con ha_663) (by kernel_rfl) ?_
      refine W.cond 0 100000 h (by kernel_rfl) (fun h => ?_) (fun h => ?_)
      ·
        refine W.yes 0 100000 (by kernel_rfl) ?_
        refine W.yes 0 100000 (by kernel_rfl) ?_
        refine W.yes 0 100000 (by kernel_rfl) ?_
        refine W.yes 0 100000 (by kernel_rfl) ?_
        refine W.yes 0 100000 (by kernel_rfl) ?_
        refine W.yes 0 100000 (by kernel_rfl) ?_
        refine W.yes 0 100000 (by kernel_rfl) ?_
        exact W.retT 0 100000 h (by kernel_rfl)
      ·
        refine W.no 0 100000 (by kernel_rfl) ?_
        refine W.no 0 100000 (by kernel_rfl) ?_
        refine W.cond 0 100000 h (by kernel_rfl) (fun h => ?_) (fun h => ?_)
        ·
          refine W.yes 0 100000 (by kernel_rfl) ?_
          refine W.yes 0 100000 (by kernel_rfl) ?_
          refine W.yes 0 100000 (by kernel_rfl) ?_
          refine W.yes 0 100000 (by kernel_rfl) ?_
          exact W.retT 0 100000 h (by kernel_rfl)
        ·
          refine W.no 0 100000 (by kernel_rfl) ?_
          refine W.no 0 100000 (by kernel_rfl) ?_
          refine W.no 0 100000 (by kernel_rfl) ?_
          refine W.cond 0 100000 h (by kernel_rfl) (fun h => ?_) (fun h => ?_)
          ·
            exact W.retT 0 100000 h (by kernel_rfl)
          ·
            exact W.retT 0 100000 h (by kernel_rfl)
  · unfold cellarerref10_Parse_b0 at h665
    refine W.cond 2 100000 h665 (by kernel_rfl) (fun h665 => ?_) (fun h665 => ?_)
    ·
      refine W.needT 2 100000 h665 (by kernel_rfl) (fun h665 => ?_)
      refine W.needT 2 100000 h665 (by kernel_rfl) (fun h665 => ?_)
      refine W.bind h665 fun a_654 ha_654 h665 => ?_
      refine W.call 2 100000 (by kernel_rfl) (cellarerref06_Split_con ha_654) (by kernel_rfl) ?_
      refine W.cond 2 100000 h665 (by kernel_rfl) (fun h665 => ?_) (fun h665 => ?_)
      ·
        cases h665; exact W.retK 2 100000 K665 (by kernel_rfl)
      ·
        refine W.needT 2 100000 h665 (by kernel_rfl) (fun h665 => ?_)
        refine W.needT 2 100000 h665 (by kernel_rfl) (fun h665 => ?_)
        refine W.bind h665 fun a_655 ha_655 h665 => ?_
        refine W.call 2 100000 (by kernel_rfl) (cellarerref10_behind_con ha_655) (by kernel_rfl) ?_
        refine W.bind h665 fun a_656 ha_656 h665 => ?_
        refine W.call 2 100000 (by kernel_rfl) (cellarerref01_Int_con ha_656) (by kernel_rfl) ?_
        refine W.needT 2 100000 h665 (by kernel_rfl) (fun h665 => ?_)
        refine W.needT 2 100000 h665 (by kernel_rfl) (fun h665 => ?_)
        refine W.bind h665 fun a_657 ha_657 h665 => ?_
        refine W.call 2 100000 (by kernel_rfl) (cellarerref10_behind_con ha_657) (by kernel_rfl) ?_
        refine W.bind h665 fun a_658 ha_658 h665 => ?_
        refine W.call 2 100000 (by kernel_rfl) (cellarerref01_Int_con ha_658) (by kernel_rfl) ?_
        refine W.needT 2 100000 h665 (by kernel_rfl) (fun h665 => ?_)
        refine W.needT 2 100000 h665 (by kernel_rfl) (fun h665 => ?_)
        refine W.bind h665 fun a_659 ha_659 h665 => ?_
        refine W.call 2 100000 (by kernel_rfl) (cellarerref01_ParseOctal_con ha_659) (by kernel_rfl) ?_
        refine W.needT 2 100000 h665 (by kernel_rfl) (fun h665 => ?_)
        refine W.needT 2 100000 h665 (by kernel_rfl) (fun h665 => ?_)
        refine W.needT 2 100000 h665 (by kernel_rfl) (fun h665 => ?_)
        cases h665; exact W.at 2 100000 [Co.own 4 (Ty.prod Ty.str (Ty.prod (Ty.int IntKind.i64) (Ty.prod (Ty.int IntKind.i64) (Ty.int IntKind.i64))))] [0, 4, 5, 6, 7] (by kernel_rfl) K665
    ·
      cases h665; exact W.at 2 100000 [] [0, 4, 6] (by kernel_rfl) K665

theorem cellarerlaw10_OversParses_con {s_571 : List UInt8} {r : Bool} (h : cellarerlaw10_OversParses s_571 = some r) : Con Go.Proofs.Tryd.prog 4 [AV.str s_571] [] (cellarerlaw10_OversParses_res r) (cellarerlaw10_OversParses_out r) := by
  refine W.con (by kernel_rfl) ?_
  unfold cellarerlaw10_OversParses at h
  refine W.cond 0 100000 h (by kernel_rfl) (fun h => ?_) (fun h => ?_)
  ·
    refine W.bind h fun a_572 ha_572 h => ?_
    refine W.call 0 100000 (by kernel_rfl) (cellarerlaw10_awake_con ha_572) (by kernel_rfl) ?_
    exact W.retT 0 100000 h (by kernel_rfl)
  ·
    refine W.bind h fun a_573 ha_573 h => ?_
    refine W.call 0 100000 (by kernel_rfl) (overs_Parse_con ha_573) (by kernel_rfl) ?_
    refine W.bind h fun a_670 ha_670 h => ?_
    refine W.call 0 100000 (by kernel_rfl) (cellarerref10_Parse_con ha_670) (by kernel_rfl) ?_
    refine W.join (fun t => (Sum.elim (fun t_672 => r = (Bool.false)) (fun t_673 => Walk Go.Proofs.Tryd.prog 4 (Cfg.mk Mode.run (seqTodo Go.Proofs.Tryd.prog 4 6) (St.mk [AV.str s_571, jj, jj, AV.view (0 : Nat) (0 : Nat) Option.none, jj, jj, AV.bool (Prod.fst a_670), jj, jj, jj, jj, jj, jj, jj, jj, jj, jj, jj, jj, jj, jj, jj, jj, jj, jj, jj, jj, jj, jj, jj, jj, jj, jj, jj, jj, jj, jj, jj, jj, jj, jj, jj, jj, jj, jj, jj, jj, jj, jj, jj, jj, jj, jj, jj, jj, jj, jj, jj, jj, jj, jj, jj, jj, jj, jj, jj, jj] [AO.row (Ty.prod Ty.str (Ty.prod (Ty.int IntKind.i64) (Ty.prod (Ty.int IntKind.i64) (Ty.int IntKind.i64)))) (Prod.snd a_573)] (0 : Nat))) (cellarerlaw10_OversParses_res r) (cellarerlaw10_OversParses_out r))) t) h (fun t h => ?_) (fun t678 h678 K678 => ?_)
    ·
      rcases t with t_672 | t_673
      · replace h := W.inl (h)
        refine W.elimL (?_)
        exact (Option.some.inj h).symm
      · replace h := W.inr (h)
        refine W.elimR (?_)
        refine W.cond 0 100000 h (by kernel_rfl) (fun h => ?_) (fun h => ?_)
        ·
          refine W.bind h fun a_674 ha_674 h => ?_
          refine W.call 0 100000 (by kernel_rfl) (cellarerlaw10_awake_con ha_674) (by kernel_rfl) ?_
          exact W.retT 0 100000 h (by kernel_rfl)
        ·
          refine W.bind h fun a_675 ha_675 h => ?_
          refine W.call 0 100000 (by kernel_rfl) (overs_Print_con ha_675) (by kernel_rfl) ?_
          refine W.cond 0 100000 h (by kernel_rfl) (fun h => ?_) (fun h => ?_)
          ·
            refine W.yes 0 100000 (by kernel_rfl) ?_
            refine W.yes 0 100000 (by kernel_rfl) ?_
            refine W.yes 0 100000 (by kernel_rfl) ?_
            refine W.cond 0 100000 h (by kernel_rfl) (fun h => ?_) (fun h => ?_)
            ·
              refine W.bind h fun a_676 ha_676 h => ?_
              refine W.call 0 100000 (by kernel_rfl) (cellarerlaw10_awake_con ha_676) (by kernel_rfl) ?_
              refine W.yes 0 100000 (by kernel_rfl) ?_
              exact W.retT 0 100000 h (by kernel_rfl)
            ·
              refine W.no 0 100000 (by kernel_rfl) ?_
              exact W.retT 0 100000 h (by kernel_rfl)
          ·
            refine W.no 0 100000 (by kernel_rfl) ?_
            refine W.no 0 100000 (by kernel_rfl) ?_
            refine W.no 0 100000 (by kernel_rfl) ?_
            refine W.no 0 100000 (by kernel_rfl) ?_
            refine W.no 0 100000 (by kernel_rfl) ?_
            exact W.retT 0 100000 h (by kernel_rfl)
    · refine W.next 0 7 (by kernel_rfl) ?_
      refine W.cond 1 100000 h678 (by kernel_rfl) (fun h678 => ?_) (fun h678 => ?_)
      ·
        refine W.yes 1 100000 (by kernel_rfl) ?_
        refine W.yes 1 100000 (by kernel_rfl) ?_
        refine W.yes 1 100000 (by kernel_rfl) ?_
        refine W.yes 1 100000 (by kernel_rfl) ?_
        refine W.yes 1 100000 (by kernel_rfl) ?_
        refine W.yes 1 100000 (by kernel_rfl) ?_
        refine W.yes 1 100000 (by kernel_rfl) ?_
        refine W.yes 1 100000 (by kernel_rfl) ?_
        refine W.yes 1 100000 (by kernel_rfl) ?_
        cases h678; exact W.retK 1 100000 K678 (by kernel_rfl)
      ·
        refine W.no 1 100000 (by kernel_rfl) ?_
        refine W.cond 1 100000 h678 (by kernel_rfl) (fun h678 => ?_) (fun h678 => ?_)
        ·
          refine W.yes 1 100000 (by kernel_rfl) ?_
          refine W.yes 1 100000 (by kernel_rfl) ?_
          refine W.bind h678 fun a_671 ha_671 h678 => ?_
          refine W.call 1 100000 (by kernel_rfl) (cellarerref10_Same_con ha_671) (by kernel_rfl) ?_
          refine W.yes 1 100000 (by kernel_rfl) ?_
          refine W.no 1 100000 (by kernel_rfl) ?_
          refine W.yes 1 100000 (by kernel_rfl) ?_
          refine W.no 1 100000 (by kernel_rfl) ?_
          refine W.cond 1 100000 h678 (by kernel_rfl) (fun h678 => ?_) (fun h678 => ?_)
          ·
            refine W.yes 1 100000 (by kernel_rfl) ?_
            refine W.yes 1 100000 (by kernel_rfl) ?_
            refine W.yes 1 100000 (by kernel_rfl) ?_
            refine W.yes 1 100000 (by kernel_rfl) ?_
            refine W.yes 1 100000 (by kernel_rfl) ?_
            cases h678; exact W.retK 1 100000 K678 (by kernel_rfl)
          ·
            refine W.no 1 100000 (by kernel_rfl) ?_
            refine W.no 1 100000 (by kernel_rfl) ?_
            refine W.cond 1 100000 h678 (by kernel_rfl) (fun h678 => ?_) (fun h678 => ?_)
            ·
              refine W.yes 1 100000 (by kernel_rfl) ?_
              refine W.yes 1 100000 (by kernel_rfl) ?_
              refine W.cond 1 100000 h678 (by kernel_rfl) (fun h678 => ?_) (fun h678 => ?_)
              ·
                refine W.yes 1 100000 (by kernel_rfl) ?_
                refine W.yes 1 100000 (by kernel_rfl) ?_
                refine W.yes 1 100000 (by kernel_rfl) ?_
                refine W.yes 1 100000 (by kernel_rfl) ?_
                refine W.no 1 100000 (by kernel_rfl) ?_
                refine W.yes 1 100000 (by kernel_rfl) ?_
                refine W.no 1 100000 (by kernel_rfl) ?_
                refine W.yes 1 100000 (by kernel_rfl) ?_
                cases h678; exact W.retK 1 100000 K678 (by kernel_rfl)
              ·
                refine W.no 1 100000 (by kernel_rfl) ?_
                refine W.no 1 100000 (by kernel_rfl) ?_
                refine W.yes 1 100000 (by kernel_rfl) ?_
                refine W.no 1 100000 (by kernel_rfl) ?_
                refine W.no 1 100000 (by kernel_rfl) ?_
                refine W.yes 1 100000 (by kernel_rfl) ?_
                refine W.no 1 100000 (by kernel_rfl) ?_
                refine W.cond 1 100000 h678 (by kernel_rfl) (fun h678 => ?_) (fun h678 => ?_)
                ·
                  cases h678; exact W.retK 1 100000 K678 (by kernel_rfl)
                ·
                  cases h678; exact W.at 1 100000 [] [0, 3, 6] (by kernel_rfl) K678
            ·
              refine W.no 1 100000 (by kernel_rfl) ?_
              refine W.no 1 100000 (by kernel_rfl) ?_
              refine W.no 1 100000 (by kernel_rfl) ?_
              refine W.no 1 100000 (by kernel_rfl) ?_
              refine W.no 1 100000 (by kernel_rfl) ?_
              refine W.no 1 100000 (by kernel_rfl) ?_
              refine W.no 1 100000 (by kernel_rfl) ?_
              cases h678; exact W.at 1 100000 [] [0, 3, 6] (by kernel_rfl) K678
        ·
          refine W.no 1 100000 (by kernel_rfl) ?_
          refine W.no 1 100000 (by kernel_rfl) ?_
          refine W.no 1 100000 (by kernel_rfl) ?_
          refine W.no 1 100000 (by kernel_rfl) ?_
          refine W.no 1 100000 (by kernel_rfl) ?_
          refine W.no 1 100000 (by kernel_rfl) ?_
          refine W.no 1 100000 (by kernel_rfl) ?_
          refine W.no 1 100000 (by kernel_rfl) ?_
          refine W.no 1 100000 (by kernel_rfl) ?_
          refine W.cond 1 100000 h678 (by kernel_rfl) (fun h678 => ?_) (fun h678 => ?_)
          ·
            refine W.yes 1 100000 (by kernel_rfl) ?_
            refine W.yes 1 100000 (by kernel_rfl) ?_
            refine W.cond 1 100000 h678 (by kernel_rfl) (fun h678 => ?_) (fun h678 => ?_)
            ·
              refine W.yes 1 100000 (by kernel_rfl) ?_
              refine W.yes 1 100000 (by kernel_rfl) ?_
              refine W.yes 1 100000 (by kernel_rfl) ?_
              refine W.yes 1 100000 (by kernel_rfl) ?_
              refine W.no 1 100000 (by kernel_rfl) ?_
              refine W.yes 1 100000 (by kernel_rfl) ?_
              refine W.no 1 100000 (by kernel_rfl) ?_
              refine W.yes 1 100000 (by kernel_rfl) ?_
              cases h678; exact W.retK 1 100000 K678 (by kernel_rfl)
            ·
              refine W.no 1 100000 (by kernel_rfl) ?_
              refine W.no 1 100000 (by kernel_rfl) ?_
              refine W.yes 1 100000 (by kernel_rfl) ?_
              refine W.no 1 100000 (by kernel_rfl) ?_
              refine W.no 1 100000 (by kernel_rfl) ?_
              refine W.yes 1 100000 (by kernel_rfl) ?_
              refine W.no 1 100000 (by kernel_rfl) ?_
              refine W.cond 1 100000 h678 (by kernel_rfl) (fun h678 => ?_) (fun h678 => ?_)
              ·
                cases h678; exact W.retK 1 100000 K678 (by kernel_rfl)
              ·
                cases h678; exact W.at 1 100000 [] [0, 3, 6] (by kernel_rfl) K678
          ·
            refine W.no 1 100000 (by kernel_rfl) ?_
            refine W.no 1 100000 (by kernel_rfl) ?_
            refine W.no 1 100000 (by kernel_rfl) ?_
            refine W.no 1 100000 (by kernel_rfl) ?_
            refine W.no 1 100000 (by kernel_rfl) ?_
            refine W.no 1 100000 (by kernel_rfl) ?_
            refine W.no 1 100000 (by kernel_rfl) ?_
            cases h678; exact W.at 1 100000 [] [0, 3, 6] (by kernel_rfl) K678

theorem cellarerref10_Find_con {l_700 : List (List UInt8 × Int × Int × Int)} {p_701 : List UInt8} {r : Int} (h : cellarerref10_Find l_700 p_701 = some r) : Con Go.Proofs.Tryd.prog 23 [AV.list (Ty.prod Ty.str (Ty.prod (Ty.int IntKind.i64) (Ty.prod (Ty.int IntKind.i64) (Ty.int IntKind.i64)))) l_700 Bool.false, AV.str p_701] [] (cellarerref10_Find_res r) (cellarerref10_Find_out r) := by
  refine W.con (by kernel_rfl) ?_
  unfold cellarerref10_Find at h
  refine W.at 0 100000 [] [0, 1, 5] (c' := (fun (s_712 : Int) => (Cfg.mk Mode.run (headTodo Go.Proofs.Tryd.prog 23 0) (St.mk [AV.list (Ty.prod Ty.str (Ty.prod (Ty.int IntKind.i64) (Ty.prod (Ty.int IntKind.i64) (Ty.int IntKind.i64)))) l_700 Bool.false, AV.str p_701, jj, jj, jj, AV.int IntKind.i64 s_712, jj, jj, jj, jj, jj, jj, jj, jj, jj, jj, jj, jj, jj, jj] [] (0 : Nat)))) ((0 : Int))) (by kernel_rfl) ?_
  refine W.loop (fun (s_712 : Int) => (Cfg.mk Mode.run (headTodo Go.Proofs.Tryd.prog 23 0) (St.mk [AV.list (Ty.prod Ty.str (Ty.prod (Ty.int IntKind.i64) (Ty.prod (Ty.int IntKind.i64) (Ty.int IntKind.i64)))) l_700 Bool.false, AV.str p_701, jj, jj, jj, AV.int IntKind.i64 s_712, jj, jj, jj, jj, jj, jj, jj, jj, jj, jj, jj, jj, jj, jj] [] (0 : Nat)))) (fun t => (Sum.elim (fun t_706 => r = (t_706)) (fun t_707 => Walk Go.Proofs.Tryd.prog 23 (Cfg.mk Mode.run ((headTodo Go.Proofs.Tryd.prog 23 0).drop 3) (St.mk [jj, jj, jj, jj, jj, jj, jj, jj, jj, jj, jj, jj, jj, jj, jj, jj, jj, jj, jj, jj] [] (0 : Nat))) (cellarerref10_Find_res r) (cellarerref10_Find_out r))) t) h (fun t h => ?_) (fun s_712 x709 h709 K709 => ?_)
  ·
    rcases t with t_706 | t_707
    · replace h := W.inl (h)
      refine W.elimL (?_)
      exact (Option.some.inj h).symm
    · replace h := W.inr (h)
      refine W.elimR (?_)
      exact W.retT 0 100000 h (by kernel_rfl)
  · unfold cellarerref10_Find_b0 at h709
    refine W.cond 2 100000 h709 (by kernel_rfl) (fun h709 => ?_) (fun h709 => ?_)
    ·
      refine W.needT 2 100000 h709 (by kernel_rfl) (fun h709 => ?_)
      refine W.cond 2 100000 h709 (by kernel_rfl) (fun h709 => ?_) (fun h709 => ?_)
      ·
        cases h709; exact W.retK 2 100000 K709 (by kernel_rfl)
      ·
        cases h709; exact W.at 2 100000 [] [0, 1, 5] (by kernel_rfl) K709
    ·
      cases h709; exact W.at 2 100000 [] [] (by kernel_rfl) K709

theorem cellarerref10_Meta_con {l_695 : List (List UInt8 × Int × Int × Int)} {p_696 : List UInt8} {m_697 : Int} {m_698 : Int} {m_699 : Int} {r : Int × Int × Int} (h : cellarerref10_Meta l_695 p_696 m_697 m_698 m_699 = some r) : Con Go.Proofs.Tryd.prog 17 [AV.list (Ty.prod Ty.str (Ty.prod (Ty.int IntKind.i64) (Ty.prod (Ty.int IntKind.i64) (Ty.int IntKind.i64)))) l_695 Bool.false, AV.str p_696, AV.agg [AV.int IntKind.i64 m_697, AV.int IntKind.i64 m_698, AV.int IntKind.i64 m_699]] [] (cellarerref10_Meta_res r) (cellarerref10_Meta_out r) := by
  refine W.con (by kernel_rfl) ?_
  unfold cellarerref10_Meta at h
  refine W.bind h fun a_713 ha_713 h => ?_
  refine W.call 0 100000 (by kernel_rfl) (cellarerref10_Find_con ha_713) (by kernel_rfl) ?_
  refine W.cond 0 100000 h (by kernel_rfl) (fun h => ?_) (fun h => ?_)
  ·
    exact W.retT 0 100000 h (by kernel_rfl)
  ·
    refine W.needT 0 100000 h (by kernel_rfl) (fun h => ?_)
    exact W.retT 0 100000 h (by kernel_rfl)

theorem cellarerlaw10_OversMetas_con {l_683 : List (List UInt8 × Int × Int × Int)} {p_684 : List UInt8} {m_685 : Int} {m_686 : Int} {m_687 : Int} {r : Bool} (h : cellarerlaw10_OversMetas l_683 p_684 m_685 m_686 m_687 = some r) : Con Go.Proofs.Tryd.prog 5 [AV.list (Ty.prod Ty.str (Ty.prod (Ty.int IntKind.i64) (Ty.prod (Ty.int IntKind.i64) (Ty.int IntKind.i64)))) l_683 Bool.false, AV.str p_684, AV.agg [AV.int IntKind.i64 m_685, AV.int IntKind.i64 m_686, AV.int IntKind.i64 m_687]] [] (cellarerlaw10_OversMetas_res r) (cellarerlaw10_OversMetas_out r) := by
  refine W.con (by kernel_rfl) ?_
  unfold cellarerlaw10_OversMetas at h
  refine W.join (fun t => (Sum.elim (fun t_692 => r = (t_692)) (fun t_693 => Walk Go.Proofs.Tryd.prog 5 (Cfg.mk Mode.run (seqTodo Go.Proofs.Tryd.prog 5 1) (St.mk [AV.list (Ty.prod Ty.str (Ty.prod (Ty.int IntKind.i64) (Ty.prod (Ty.int IntKind.i64) (Ty.int IntKind.i64)))) l_683 Bool.false, AV.str p_684, jj, jj, jj, AV.ptr (0 : Nat) (0 : Nat), jj, jj, jj, jj, jj, jj, jj, jj, jj, jj, jj, jj, jj, jj, jj, jj, jj, jj, jj, jj, jj, jj] [AO.box [AV.int IntKind.i64 m_685, AV.int IntKind.i64 m_686, AV.int IntKind.i64 m_687]] (0 : Nat))) (cellarerlaw10_OversMetas_res r) (cellarerlaw10_OversMetas_out r))) t) h (fun t h => ?_) (fun t721 h721 K721 => ?_)
  ·
    rcases t with t_692 | t_693
    · replace h := W.inl (h)
      refine W.elimL (?_)
      exact (Option.some.inj h).symm
    · replace h := W.inr (h)
      refine W.elimR (?_)
      refine W.bind h fun a_694 ha_694 h => ?_
      refine W.call 0 100000 (by kernel_rfl) (overs_Meta_con ha_694) (by kernel_rfl) ?_
      refine W.bind h fun a_718 ha_718 h => ?_
      refine W.call 0 100000 (by kernel_rfl) (cellarerref10_Meta_con ha_718) (by kernel_rfl) ?_
      refine W.cond 0 100000 h (by kernel_rfl) (fun h => ?_) (fun h => ?_)
      ·
        refine W.bind h fun a_719 ha_719 h => ?_
        refine W.call 0 100000 (by kernel_rfl) (cellarerlaw10_awake_con ha_719) (by kernel_rfl) ?_
        refine W.yes 0 100000 (by kernel_rfl) ?_
        exact W.retT 0 100000 h (by kernel_rfl)
      ·
        refine W.no 0 100000 (by kernel_rfl) ?_
        exact W.retT 0 100000 h (by kernel_rfl)
  · refine W.next 0 6 (by kernel_rfl) ?_
    refine W.bind h721 fun a_688 ha_688 h721 => ?_
    refine W.call 1 100000 (by kernel_rfl) (cellarerlaw10_few_con ha_688) (by kernel_rfl) ?_
    refine W.cond 1 100000 h721 (by kernel_rfl) (fun h721 => ?_) (fun h721 => ?_)
    ·
      refine W.yes 1 100000 (by kernel_rfl) ?_
      refine W.yes 1 100000 (by kernel_rfl) ?_
      refine W.yes 1 100000 (by kernel_rfl) ?_
      refine W.yes 1 100000 (by kernel_rfl) ?_
      refine W.bind h721 fun a_689 ha_689 h721 => ?_
      refine W.call 1 100000 (by kernel_rfl) (cellarerlaw10_awake_con ha_689) (by kernel_rfl) ?_
      cases h721; exact W.retK 1 100000 K721 (by kernel_rfl)
    ·
      refine W.no 1 100000 (by kernel_rfl) ?_
      refine W.no 1 100000 (by kernel_rfl) ?_
      refine W.no 1 100000 (by kernel_rfl) ?_
      refine W.cond 1 100000 h721 (by kernel_rfl) (fun h721 => ?_) (fun h721 => ?_)
      ·
        refine W.bind h721 fun a_690 ha_690 h721 => ?_
        refine W.call 1 100000 (by kernel_rfl) (cellarerlaw10_awake_con ha_690) (by kernel_rfl) ?_
        cases h721; exact W.retK 1 100000 K721 (by kernel_rfl)
      ·
        cases h721; exact W.at 1 100000 [] [0, 1, 5] (by kernel_rfl) K721

theorem api_Over__40_con {s_745 : List (List UInt8 × Int × Int × Int)} {r : List (List UInt8 × Int × Int × Int)} (h : api_Over__40 s_745 = some r) : Con Go.Proofs.Tryd.prog 40 [AV.list (Ty.prod Ty.str (Ty.prod (Ty.int IntKind.i64) (Ty.prod (Ty.int IntKind.i64) (Ty.int IntKind.i64)))) s_745 Bool.false] [] (api_Over__40_res r) (api_Over__40_out r) := by
  refine W.con (by kernel_rfl) ?_
  unfold api_Over__40 at h
  refine W.mayb 0 100000 h (by kernel_rfl) (fun h => ?_) (fun h => ?_)
  ·
    exact W.retT 0 100000 h (by kernel_rfl)
  ·
    refine W.needT 0 100000 h (by kernel_rfl) (fun h => ?_)
    exact W.retT 0 100000 h (by kernel_rfl)

theorem overs_Put_1_con {y_762 : List UInt8} {y_763 : Int} {y_764 : Int} {y_765 : Int} {o0_766 : List UInt8} {o0_767 : Int} {o0_768 : Int} {o0_769 : Int} {r : Bool × List UInt8 × Int × Int × Int} (h : overs_Put_1 y_762 y_763 y_764 y_765 o0_766 o0_767 o0_768 o0_769 = some r) : Con Go.Proofs.Tryd.prog 42 [AV.agg [AV.str y_762, AV.int IntKind.i64 y_763, AV.int IntKind.i64 y_764, AV.int IntKind.i64 y_765], AV.ptr (0 : Nat) (0 : Nat)] [AO.box [AV.str o0_766, AV.int IntKind.i64 o0_767, AV.int IntKind.i64 o0_768, AV.int IntKind.i64 o0_769]] (overs_Put_1_res r) (overs_Put_1_out r) := by
  refine W.con (by kernel_rfl) ?_
  unfold overs_Put_1 at h
  exact W.retT 0 100000 h (by kernel_rfl)

theorem api_Over__v1_con {s_750 : List (List UInt8 × Int × Int × Int)} {o0_751 : List UInt8} {o0_752 : Int} {o0_753 : Int} {o0_754 : Int} {r : Int × List UInt8 × Int × Int × Int} (h : api_Over__v1 s_750 o0_751 o0_752 o0_753 o0_754 = some r) : Con Go.Proofs.Tryd.prog 41 [AV.list (Ty.prod Ty.str (Ty.prod (Ty.int IntKind.i64) (Ty.prod (Ty.int IntKind.i64) (Ty.int IntKind.i64)))) s_750 Bool.false, AV.func (Go.Fn.func (42 : Nat)) [] [AV.ptr (0 : Nat) (0 : Nat)]] [AO.box [AV.str o0_751, AV.int IntKind.i64 o0_752, AV.int IntKind.i64 o0_753, AV.int IntKind.i64 o0_754]] (api_Over__v1_res r) (api_Over__v1_out r) := by
  refine W.con (by kernel_rfl) ?_
  unfold api_Over__v1 at h
  refine W.at 0 100000 [] [0, 1, 7, 8] (c' := (fun (s_796 : Int × List UInt8 × Int × Int × Int) => (Cfg.mk Mode.run (headTodo Go.Proofs.Tryd.prog 41 0) (St.mk [AV.list (Ty.prod Ty.str (Ty.prod (Ty.int IntKind.i64) (Ty.prod (Ty.int IntKind.i64) (Ty.int IntKind.i64)))) s_750 Bool.false, AV.func (Go.Fn.func (42 : Nat)) [] [AV.ptr (0 : Nat) (0 : Nat)], jj, jj, jj, jj, jj, AV.int IntKind.i64 (↑(List.length s_750) : Int), AV.int IntKind.i64 (Prod.fst s_796), jj, jj, jj, jj, jj, jj, jj, jj, jj, jj] [AO.box [AV.str (Prod.fst (Prod.snd s_796)), AV.int IntKind.i64 (Prod.fst (Prod.snd (Prod.snd s_796))), AV.int IntKind.i64 (Prod.fst (Prod.snd (Prod.snd (Prod.snd s_796)))), AV.int IntKind.i64 (Prod.snd (Prod.snd (Prod.snd (Prod.snd s_796))))]] (1 : Nat)))) ((0 : Int), o0_751, o0_752, o0_753, o0_754)) (by kernel_rfl) ?_
  refine W.loop (fun (s_796 : Int × List UInt8 × Int × Int × Int) => (Cfg.mk Mode.run (headTodo Go.Proofs.Tryd.prog 41 0) (St.mk [AV.list (Ty.prod Ty.str (Ty.prod (Ty.int IntKind.i64) (Ty.prod (Ty.int IntKind.i64) (Ty.int IntKind.i64)))) s_750 Bool.false, AV.func (Go.Fn.func (42 : Nat)) [] [AV.ptr (0 : Nat) (0 : Nat)], jj, jj, jj, jj, jj, AV.int IntKind.i64 (↑(List.length s_750) : Int), AV.int IntKind.i64 (Prod.fst s_796), jj, jj, jj, jj, jj, jj, jj, jj, jj, jj] [AO.box [AV.str (Prod.fst (Prod.snd s_796)), AV.int IntKind.i64 (Prod.fst (Prod.snd (Prod.snd s_796))), AV.int IntKind.i64 (Prod.fst (Prod.snd (Prod.snd (Prod.snd s_796)))), AV.int IntKind.i64 (Prod.snd (Prod.snd (Prod.snd (Prod.snd s_796))))]] (1 : Nat)))) (fun t => (Sum.elim (fun t_782 => r = (Prod.fst t_782, Prod.fst (Prod.snd t_782), Prod.fst (Prod.snd (Prod.snd t_782)), Prod.fst (Prod.snd (Prod.snd (Prod.snd t_782))), Prod.snd (Prod.snd (Prod.snd (Prod.snd t_782))))) (fun t_787 => Walk Go.Proofs.Tryd.prog 41 (Cfg.mk Mode.run ((headTodo Go.Proofs.Tryd.prog 41 0).drop 3) (St.mk [jj, jj, jj, jj, jj, jj, jj, jj, jj, jj, jj, jj, jj, jj, jj, jj, jj, jj, jj] [AO.box [AV.str (Prod.fst t_787), AV.int IntKind.i64 (Prod.fst (Prod.snd t_787)), AV.int IntKind.i64 (Prod.fst (Prod.snd (Prod.snd t_787))), AV.int IntKind.i64 (Prod.snd (Prod.snd (Prod.snd t_787)))]] (1 : Nat))) (api_Over__v1_res r) (api_Over__v1_out r))) t) h (fun t h => ?_) (fun s_796 x789 h789 K789 => ?_)
  ·
    rcases t with t_782 | t_787
    · replace h := W.inl (h)
      refine W.elimL (?_)
      exact (Option.some.inj h).symm
    · replace h := W.inr (h)
      refine W.elimR (?_)
      exact W.retT 0 100000 h (by kernel_rfl)
  · unfold api_Over__v1_b0 at h789
    refine W.cond 2 100000 h789 (by kernel_rfl) (fun h789 => ?_) (fun h789 => ?_)
    ·
      refine W.needT 2 100000 h789 (by kernel_rfl) (fun h789 => ?_)
      refine W.bind h789 fun a_776 ha_776 h789 => ?_
      refine W.call 2 100000 (by kernel_rfl) (overs_Put_1_con ha_776) (by kernel_rfl) ?_
      refine W.cond 2 100000 h789 (by kernel_rfl) (fun h789 => ?_) (fun h789 => ?_)
      ·
        cases h789; exact W.retK 2 100000 K789 (by kernel_rfl)
      ·
        cases h789; exact W.at 2 100000 [] [0, 1, 7, 8] (by kernel_rfl) K789
    ·
      cases h789; exact W.at 2 100000 [] [] (by kernel_rfl) K789

theorem overs_Put_con {l_740 : List (List UInt8 × Int × Int × Int)} {x_741 : List UInt8} {x_742 : Int} {x_743 : Int} {x_744 : Int} {r : List (List UInt8 × Int × Int × Int)} (h : overs_Put l_740 x_741 x_742 x_743 x_744 = some r) : Con Go.Proofs.Tryd.prog 18 [AV.list (Ty.prod Ty.str (Ty.prod (Ty.int IntKind.i64) (Ty.prod (Ty.int IntKind.i64) (Ty.int IntKind.i64)))) l_740 Bool.false, AV.agg [AV.str x_741, AV.int IntKind.i64 x_742, AV.int IntKind.i64 x_743, AV.int IntKind.i64 x_744]] [] (overs_Put_res r) (overs_Put_out r) := by
  refine W.con (by kernel_rfl) ?_
  unfold overs_Put at h
  refine W.bind h fun a_748 ha_748 h => ?_
  refine W.call 0 100000 (by kernel_rfl) (api_Over__40_con ha_748) (by kernel_rfl) ?_
  refine W.bind h fun a_749 ha_749 h => ?_
  refine W.call 0 100000 (by kernel_rfl) (overs_Find_con ha_749) (by kernel_rfl) ?_
  refine W.cond 0 100000 h (by kernel_rfl) (fun h => ?_) (fun h => ?_)
  ·
    refine W.needT 0 100000 h (by kernel_rfl) (fun h => ?_)
    refine W.needT 0 100000 h (by kernel_rfl) (fun h => ?_)
    exact W.retT 0 100000 h (by kernel_rfl)
  ·
    refine W.bind h fun a_797 ha_797 h => ?_
    refine W.call 0 100000 (by kernel_rfl) (api_Over__v1_con ha_797) (by kernel_rfl) ?_
    refine W.cond 0 100000 h (by kernel_rfl) (fun h => ?_) (fun h => ?_)
    ·
      refine W.bind h fun a_798 ha_798 h => ?_
      refine W.call 0 100000 (by kernel_rfl) (api_Over__43_con ha_798) (by kernel_rfl) ?_
      exact W.retT 0 100000 h (by kernel_rfl)
    ·
      refine W.bind h fun a_799 ha_799 h => ?_
      refine W.call 0 100000 (by kernel_rfl) (api_Over__43_con ha_799) (by kernel_rfl) ?_
      exact W.retT 0 100000 h (by kernel_rfl)

theorem overs_Drop_1_con {x_814 : List UInt8} {x_815 : Int} {x_816 : Int} {x_817 : Int} {o0_818 : List UInt8} {r : Bool × List UInt8} (h : overs_Drop_1 x_814 x_815 x_816 x_817 o0_818 = some r) : Con Go.Proofs.Tryd.prog 45 [AV.agg [AV.str x_814, AV.int IntKind.i64 x_815, AV.int IntKind.i64 x_816, AV.int IntKind.i64 x_817], AV.ptr (0 : Nat) (0 : Nat)] [AO.box [AV.str o0_818]] (overs_Drop_1_res r) (overs_Drop_1_out r) := by
  refine W.con (by kernel_rfl) ?_
  unfold overs_Drop_1 at h
  exact W.retT 0 100000 h (by kernel_rfl)

theorem api_Over__v2_con {s_808 : List (List UInt8 × Int × Int × Int)} {o0_809 : List UInt8} {r : Int × List UInt8} (h : api_Over__v2 s_808 o0_809 = some r) : Con Go.Proofs.Tryd.prog 41 [AV.list (Ty.prod Ty.str (Ty.prod (Ty.int IntKind.i64) (Ty.prod (Ty.int IntKind.i64) (Ty.int IntKind.i64)))) s_808 Bool.false, AV.func (Go.Fn.func (45 : Nat)) [] [AV.ptr (0 : Nat) (0 : Nat)]] [AO.box [AV.str o0_809]] (api_Over__v2_res r) (api_Over__v2_out r) := by
  refine W.con (by kernel_rfl) ?_
  unfold api_Over__v2 at h
  refine W.at 0 100000 [] [0, 1, 7, 8] (c' := (fun (s_833 : Int × List UInt8) => (Cfg.mk Mode.run (headTodo Go.Proofs.Tryd.prog 41 0) (St.mk [AV.list (Ty.prod Ty.str (Ty.prod (Ty.int IntKind.i64) (Ty.prod (Ty.int IntKind.i64) (Ty.int IntKind.i64)))) s_808 Bool.false, AV.func (Go.Fn.func (45 : Nat)) [] [AV.ptr (0 : Nat) (0 : Nat)], jj, jj, jj, jj, jj, AV.int IntKind.i64 (↑(List.length s_808) : Int), AV.int IntKind.i64 (Prod.fst s_833), jj, jj, jj, jj, jj, jj, jj, jj, jj, jj] [AO.box [AV.str (Prod.snd s_833)]] (1 : Nat)))) ((0 : Int), o0_809)) (by kernel_rfl) ?_
  refine W.loop (fun (s_833 : Int × List UInt8) => (Cfg.mk Mode.run (headTodo Go.Proofs.Tryd.prog 41 0) (St.mk [AV.list (Ty.prod Ty.str (Ty.prod (Ty.int IntKind.i64) (Ty.prod (Ty.int IntKind.i64) (Ty.int IntKind.i64)))) s_808 Bool.false, AV.func (Go.Fn.func (45 : Nat)) [] [AV.ptr (0 : Nat) (0 : Nat)], jj, jj, jj, jj, jj, AV.int IntKind.i64 (↑(List.length s_808) : Int), AV.int IntKind.i64 (Prod.fst s_833), jj, jj, jj, jj, jj, jj, jj, jj, jj, jj] [AO.box [AV.str (Prod.snd s_833)]] (1 : Nat)))) (fun t => (Sum.elim (fun t_825 => r = (Prod.fst t_825, Prod.snd t_825)) (fun t_827 => Walk Go.Proofs.Tryd.prog 41 (Cfg.mk Mode.run ((headTodo Go.Proofs.Tryd.prog 41 0).drop 3) (St.mk [jj, jj, jj, jj, jj, jj, jj, jj, jj, jj, jj, jj, jj, jj, jj, jj, jj, jj, jj] [AO.box [AV.str t_827]] (1 : Nat))) (api_Over__v2_res r) (api_Over__v2_out r))) t) h (fun t h => ?_) (fun s_833 x829 h829 K829 => ?_)
  ·
    rcases t with t_825 | t_827
    · replace h := W.inl (h)
      refine W.elimL (?_)
      exact (Option.some.inj h).symm
    · replace h := W.inr (h)
      refine W.elimR (?_)
      exact W.retT 0 100000 h (by kernel_rfl)
  · unfold api_Over__v2_b0 at h829
    refine W.cond 2 100000 h829 (by kernel_rfl) (fun h829 => ?_) (fun h829 => ?_)
    ·
      refine W.needT 2 100000 h829 (by kernel_rfl) (fun h829 => ?_)
      refine W.bind h829 fun a_822 ha_822 h829 => ?_
      refine W.call 2 100000 (by kernel_rfl) (overs_Drop_1_con ha_822) (by kernel_rfl) ?_
      refine W.cond 2 100000 h829 (by kernel_rfl) (fun h829 => ?_) (fun h829 => ?_)
      ·
        cases h829; exact W.retK 2 100000 K829 (by kernel_rfl)
      ·
        cases h829; exact W.at 2 100000 [] [0, 1, 7, 8] (by kernel_rfl) K829
    ·
      cases h829; exact W.at 2 100000 [] [] (by kernel_rfl) K829

theorem api_Over__44_con {o0_806 : List UInt8} {o1_807 : List (List UInt8 × Int × Int × Int)} {r : List UInt8 × List (List UInt8 × Int × Int × Int)} (h : api_Over__44 o0_806 o1_807 = some r) : Con Go.Proofs.Tryd.prog 44 [AV.view (1 : Nat) (0 : Nat) Option.none, AV.func (Go.Fn.func (45 : Nat)) [] [AV.ptr (0 : Nat) (0 : Nat)]] [AO.box [AV.str o0_806], AO.row (Ty.prod Ty.str (Ty.prod (Ty.int IntKind.i64) (Ty.prod (Ty.int IntKind.i64) (Ty.int IntKind.i64)))) o1_807] (api_Over__44_res r) (api_Over__44_out r) := by
  refine W.con (by kernel_rfl) ?_
  unfold api_Over__44 at h
  refine W.bind h fun a_834 ha_834 h => ?_
  refine W.call 0 100000 (by kernel_rfl) (api_Over__v2_con ha_834) (by kernel_rfl) ?_
  refine W.cond 0 100000 h (by kernel_rfl) (fun h => ?_) (fun h => ?_)
  ·
    exact W.retT 0 100000 h (by kernel_rfl)
  ·
    refine W.at 0 100000 [] [0, 1, 5, 6] (c' := (fun (s_849 : Int × Int × List UInt8 × List (List UInt8 × Int × Int × Int)) => (Cfg.mk Mode.run (headTodo Go.Proofs.Tryd.prog 44 0) (St.mk [AV.view (1 : Nat) (0 : Nat) Option.none, AV.func (Go.Fn.func (45 : Nat)) [] [AV.ptr (0 : Nat) (0 : Nat)], jj, jj, jj, AV.int IntKind.i64 (Prod.fst s_849), AV.int IntKind.i64 (Prod.fst (Prod.snd s_849)), jj, jj, jj, jj, jj, jj, jj, jj, jj, jj, jj, jj, jj, jj, jj, jj, jj, jj, jj, jj, jj, jj, jj, jj, jj, jj, jj, jj, jj, jj, jj, jj, jj, jj, jj] [AO.box [AV.str (Prod.fst (Prod.snd (Prod.snd s_849)))], AO.row (Ty.prod Ty.str (Ty.prod (Ty.int IntKind.i64) (Ty.prod (Ty.int IntKind.i64) (Ty.int IntKind.i64)))) (Prod.snd (Prod.snd (Prod.snd s_849)))] (2 : Nat)))) (Prod.fst a_834, IntKind.wrap IntKind.i64 (Prod.fst a_834 + (1 : Int)), Prod.snd a_834, o1_807)) (by kernel_rfl) ?_
    refine W.loop (fun (s_849 : Int × Int × List UInt8 × List (List UInt8 × Int × Int × Int)) => (Cfg.mk Mode.run (headTodo Go.Proofs.Tryd.prog 44 0) (St.mk [AV.view (1 : Nat) (0 : Nat) Option.none, AV.func (Go.Fn.func (45 : Nat)) [] [AV.ptr (0 : Nat) (0 : Nat)], jj, jj, jj, AV.int IntKind.i64 (Prod.fst s_849), AV.int IntKind.i64 (Prod.fst (Prod.snd s_849)), jj, jj, jj, jj, jj, jj, jj, jj, jj, jj, jj, jj, jj, jj, jj, jj, jj, jj, jj, jj, jj, jj, jj, jj, jj, jj, jj, jj, jj, jj, jj, jj, jj, jj, jj] [AO.box [AV.str (Prod.fst (Prod.snd (Prod.snd s_849)))], AO.row (Ty.prod Ty.str (Ty.prod (Ty.int IntKind.i64) (Ty.prod (Ty.int IntKind.i64) (Ty.int IntKind.i64)))) (Prod.snd (Prod.snd (Prod.snd s_849)))] (2 : Nat)))) (fun t_843 => Walk Go.Proofs.Tryd.prog 44 (Cfg.mk Mode.run ((headTodo Go.Proofs.Tryd.prog 44 0).drop 3) (St.mk [AV.view (1 : Nat) (0 : Nat) Option.none, jj, jj, jj, jj, AV.int IntKind.i64 (Prod.fst t_843), jj, jj, jj, jj, jj, jj, jj, jj, jj, jj, jj, jj, jj, jj, jj, jj, jj, jj, jj, jj, jj, jj, jj, jj, jj, jj, jj, jj, jj, jj, jj, jj, jj, jj, jj, jj] [AO.box [AV.str (Prod.fst (Prod.snd t_843))], AO.row (Ty.prod Ty.str (Ty.prod (Ty.int IntKind.i64) (Ty.prod (Ty.int IntKind.i64) (Ty.int IntKind.i64)))) (Prod.snd (Prod.snd t_843))] (2 : Nat))) (api_Over__44_res r) (api_Over__44_out r)) h (fun t_843 h => ?_) (fun s_849 x845 h845 K845 => ?_)
    ·
      refine W.needT 0 100000 h (by kernel_rfl) (fun h => ?_)
      refine W.needT 0 100000 h (by kernel_rfl) (fun h => ?_)
      exact W.retT 0 100000 h (by kernel_rfl)
    · unfold api_Over__44_b0 at h845
      refine W.cond 2 100000 h845 (by kernel_rfl) (fun h845 => ?_) (fun h845 => ?_)
      ·
        refine W.needT 2 100000 h845 (by kernel_rfl) (fun h845 => ?_)
        refine W.needT 2 100000 h845 (by kernel_rfl) (fun h845 => ?_)
        refine W.bind h845 fun a_839 ha_839 h845 => ?_
        refine W.call 2 100000 (by kernel_rfl) (overs_Drop_1_con ha_839) (by kernel_rfl) ?_
        refine W.cond 2 100000 h845 (by kernel_rfl) (fun h845 => ?_) (fun h845 => ?_)
        ·
          refine W.needT 2 100000 h845 (by kernel_rfl) (fun h845 => ?_)
          refine W.needT 2 100000 h845 (by kernel_rfl) (fun h845 => ?_)
          cases h845; exact W.at 2 100000 [] [0, 1, 5, 6] (by kernel_rfl) K845
        ·
          cases h845; exact W.at 2 100000 [] [0, 1, 5, 6] (by kernel_rfl) K845
      ·
        cases h845; exact W.at 2 100000 [] [0, 5] (by kernel_rfl) K845

theorem overs_Drop_con {l_803 : List (List UInt8 × Int × Int × Int)} {p_804 : List UInt8} {r : List (List UInt8 × Int × Int × Int)} (h : overs_Drop l_803 p_804 = some r) : Con Go.Proofs.Tryd.prog 19 [AV.list (Ty.prod Ty.str (Ty.prod (Ty.int IntKind.i64) (Ty.prod (Ty.int IntKind.i64) (Ty.int IntKind.i64)))) l_803 Bool.false, AV.str p_804] [] (overs_Drop_res r) (overs_Drop_out r) := by
  refine W.con (by kernel_rfl) ?_
  unfold overs_Drop at h
  refine W.bind h fun a_805 ha_805 h => ?_
  refine W.call 0 100000 (by kernel_rfl) (api_Over__40_con ha_805) (by kernel_rfl) ?_
  refine W.bind h fun a_850 ha_850 h => ?_
  refine W.call 0 100000 (by kernel_rfl) (api_Over__44_con ha_850) (by kernel_rfl) ?_
  exact W.retT 0 100000 h (by kernel_rfl)

theorem cellarerref10_Put_con {l_854 : List (List UInt8 × Int × Int × Int)} {x_855 : List UInt8} {x_856 : Int} {x_857 : Int} {x_858 : Int} {r : List (List UInt8 × Int × Int × Int)} (h : cellarerref10_Put l_854 x_855 x_856 x_857 x_858 = some r) : Con Go.Proofs.Tryd.prog 20 [AV.list (Ty.prod Ty.str (Ty.prod (Ty.int IntKind.i64) (Ty.prod (Ty.int IntKind.i64) (Ty.int IntKind.i64)))) l_854 Bool.false, AV.agg [AV.str x_855, AV.int IntKind.i64 x_856, AV.int IntKind.i64 x_857, AV.int IntKind.i64 x_858]] [] (cellarerref10_Put_res r) (cellarerref10_Put_out r) := by
  refine W.con (by kernel_rfl) ?_
  unfold cellarerref10_Put at h
  refine W.bind h fun a_859 ha_859 h => ?_
  refine W.call 0 100000 (by kernel_rfl) (cellarerref10_Find_con ha_859) (by kernel_rfl) ?_
  refine W.at 0 100000 [Co.own 5 (Ty.prod Ty.str (Ty.prod (Ty.int IntKind.i64) (Ty.prod (Ty.int IntKind.i64) (Ty.int IntKind.i64))))] [0, 3, 5, 6, 7, 8] (c' := (fun (s_891 : Bool × Int × List (List UInt8 × Int × Int × Int)) => (Cfg.mk Mode.run (headTodo Go.Proofs.Tryd.prog 20 0) (St.mk [AV.list (Ty.prod Ty.str (Ty.prod (Ty.int IntKind.i64) (Ty.prod (Ty.int IntKind.i64) (Ty.int IntKind.i64)))) l_854 Bool.false, jj, jj, AV.ptr (0 : Nat) (0 : Nat), jj, AV.view (1 : Nat) (0 : Nat) Option.none, AV.int IntKind.i64 a_859, AV.bool (Prod.fst s_891), AV.int IntKind.i64 (Prod.fst (Prod.snd s_891)), jj, jj, jj, jj, jj, jj, jj, jj, jj, jj, jj, jj, jj, jj, jj, jj, jj, jj, jj, jj, jj, jj, jj, jj, jj, jj, jj, jj, jj, jj, jj, jj, jj, jj, jj, jj, jj, jj, jj, jj, jj, jj, jj, jj, jj, jj, jj, jj, jj] [AO.box [AV.str x_855, AV.int IntKind.i64 x_856, AV.int IntKind.i64 x_857, AV.int IntKind.i64 x_858], AO.row (Ty.prod Ty.str (Ty.prod (Ty.int IntKind.i64) (Ty.prod (Ty.int IntKind.i64) (Ty.int IntKind.i64)))) (Prod.snd (Prod.snd s_891))] (0 : Nat)))) (Decidable.decide ((0 : Int) ≤ a_859), (0 : Int), [])) (by kernel_rfl) ?_
  refine W.loop (fun (s_891 : Bool × Int × List (List UInt8 × Int × Int × Int)) => (Cfg.mk Mode.run (headTodo Go.Proofs.Tryd.prog 20 0) (St.mk [AV.list (Ty.prod Ty.str (Ty.prod (Ty.int IntKind.i64) (Ty.prod (Ty.int IntKind.i64) (Ty.int IntKind.i64)))) l_854 Bool.false, jj, jj, AV.ptr (0 : Nat) (0 : Nat), jj, AV.view (1 : Nat) (0 : Nat) Option.none, AV.int IntKind.i64 a_859, AV.bool (Prod.fst s_891), AV.int IntKind.i64 (Prod.fst (Prod.snd s_891)), jj, jj, jj, jj, jj, jj, jj, jj, jj, jj, jj, jj, jj, jj, jj, jj, jj, jj, jj, jj, jj, jj, jj, jj, jj, jj, jj, jj, jj, jj, jj, jj, jj, jj, jj, jj, jj, jj, jj, jj, jj, jj, jj, jj, jj, jj, jj, jj, jj] [AO.box [AV.str x_855, AV.int IntKind.i64 x_856, AV.int IntKind.i64 x_857, AV.int IntKind.i64 x_858], AO.row (Ty.prod Ty.str (Ty.prod (Ty.int IntKind.i64) (Ty.prod (Ty.int IntKind.i64) (Ty.int IntKind.i64)))) (Prod.snd (Prod.snd s_891))] (0 : Nat)))) (fun t_886 => Walk Go.Proofs.Tryd.prog 20 (Cfg.mk Mode.run ((headTodo Go.Proofs.Tryd.prog 20 0).drop 3) (St.mk [jj, jj, jj, AV.ptr (0 : Nat) (0 : Nat), jj, AV.view (1 : Nat) (0 : Nat) Option.none, jj, AV.bool (Prod.fst t_886), jj, jj, jj, jj, jj, jj, jj, jj, jj, jj, jj, jj, jj, jj, jj, jj, jj, jj, jj, jj, jj, jj, jj, jj, jj, jj, jj, jj, jj, jj, jj, jj, jj, jj, jj, jj, jj, jj, jj, jj, jj, jj, jj, jj, jj, jj, jj, jj, jj, jj] [AO.box [AV.str x_855, AV.int IntKind.i64 x_856, AV.int IntKind.i64 x_857, AV.int IntKind.i64 x_858], AO.row (Ty.prod Ty.str (Ty.prod (Ty.int IntKind.i64) (Ty.prod (Ty.int IntKind.i64) (Ty.int IntKind.i64)))) (Prod.snd t_886)] (0 : Nat))) (cellarerref10_Put_res r) (cellarerref10_Put_out r)) h (fun t_886 h => ?_) (fun s_891 x888 h888 K888 => ?_)
  ·
    refine W.cond 0 100000 h (by kernel_rfl) (fun h => ?_) (fun h => ?_)
    ·
      refine W.needT 0 100000 h (by kernel_rfl) (fun h => ?_)
      exact W.retT 0 100000 h (by kernel_rfl)
    ·
      exact W.retT 0 100000 h (by kernel_rfl)
  · unfold cellarerref10_Put_b0 at h888
    refine W.cond 2 100000 h888 (by kernel_rfl) (fun h888 => ?_) (fun h888 => ?_)
    ·
      refine W.join (fun t_882 => Walk Go.Proofs.Tryd.prog 20 (Cfg.mk Mode.run (seqTodo Go.Proofs.Tryd.prog 20 9) (St.mk [AV.list (Ty.prod Ty.str (Ty.prod (Ty.int IntKind.i64) (Ty.prod (Ty.int IntKind.i64) (Ty.int IntKind.i64)))) l_854 Bool.false, jj, jj, AV.ptr (0 : Nat) (0 : Nat), jj, AV.view (1 : Nat) (0 : Nat) Option.none, AV.int IntKind.i64 a_859, AV.bool (Prod.fst t_882), AV.int IntKind.i64 (Prod.fst (Prod.snd s_891)), jj, jj, jj, jj, jj, jj, jj, jj, jj, jj, jj, jj, jj, jj, jj, jj, jj, jj, jj, jj, jj, jj, jj, jj, jj, jj, jj, jj, jj, jj, jj, jj, jj, jj, jj, jj, jj, jj, jj, jj, jj, jj, jj, jj, jj, jj, jj, jj, jj] [AO.box [AV.str x_855, AV.int IntKind.i64 x_856, AV.int IntKind.i64 x_857, AV.int IntKind.i64 x_858], AO.row (Ty.prod Ty.str (Ty.prod (Ty.int IntKind.i64) (Ty.prod (Ty.int IntKind.i64) (Ty.int IntKind.i64)))) (Prod.snd t_882)] (0 : Nat))) (cellarerref10_Put_res r) (cellarerref10_Put_out r)) h888 (fun t_882 h888 => ?_) (fun t884 h884 K884 => ?_)
      ·
        refine W.cond 2 100000 h888 (by kernel_rfl) (fun h888 => ?_) (fun h888 => ?_)
        ·
          refine W.needT 2 100000 h888 (by kernel_rfl) (fun h888 => ?_)
          cases h888; exact W.at 2 100000 [Co.own 5 (Ty.prod Ty.str (Ty.prod (Ty.int IntKind.i64) (Ty.prod (Ty.int IntKind.i64) (Ty.int IntKind.i64))))] [0, 3, 5, 6, 7, 8] (by kernel_rfl) K888
        ·
          refine W.needT 2 100000 h888 (by kernel_rfl) (fun h888 => ?_)
          refine W.needT 2 100000 h888 (by kernel_rfl) (fun h888 => ?_)
          cases h888; exact W.at 2 100000 [Co.own 5 (Ty.prod Ty.str (Ty.prod (Ty.int IntKind.i64) (Ty.prod (Ty.int IntKind.i64) (Ty.int IntKind.i64))))] [0, 3, 5, 6, 7, 8] (by kernel_rfl) K888
      · refine W.next 2 4 (by kernel_rfl) ?_
        refine W.cond 6 100000 h884 (by kernel_rfl) (fun h884 => ?_) (fun h884 => ?_)
        ·
          refine W.yes 6 100000 (by kernel_rfl) ?_
          refine W.yes 6 100000 (by kernel_rfl) ?_
          refine W.needT 6 100000 h884 (by kernel_rfl) (fun h884 => ?_)
          refine W.yes 6 100000 (by kernel_rfl) ?_
          refine W.yes 6 100000 (by kernel_rfl) ?_
          refine W.yes 6 100000 (by kernel_rfl) ?_
          refine W.yes 6 100000 (by kernel_rfl) ?_
          refine W.yes 6 100000 (by kernel_rfl) ?_
          refine W.yes 6 100000 (by kernel_rfl) ?_
          refine W.cond 6 100000 h884 (by kernel_rfl) (fun h884 => ?_) (fun h884 => ?_)
          ·
            refine W.needT 6 100000 h884 (by kernel_rfl) (fun h884 => ?_)
            cases h884; exact W.at 6 100000 [] [0, 3, 5, 6, 7, 8] (by kernel_rfl) K884
          ·
            cases h884; exact W.at 6 100000 [] [0, 3, 5, 6, 7, 8] (by kernel_rfl) K884
        ·
          refine W.no 6 100000 (by kernel_rfl) ?_
          refine W.no 6 100000 (by kernel_rfl) ?_
          refine W.no 6 100000 (by kernel_rfl) ?_
          refine W.no 6 100000 (by kernel_rfl) ?_
          refine W.no 6 100000 (by kernel_rfl) ?_
          refine W.no 6 100000 (by kernel_rfl) ?_
          refine W.no 6 100000 (by kernel_rfl) ?_
          refine W.no 6 100000 (by kernel_rfl) ?_
          refine W.no 6 100000 (by kernel_rfl) ?_
          cases h884; exact W.at 6 100000 [] [0, 3, 5, 6, 7, 8] (by kernel_rfl) K884
    ·
      cases h888; exact W.at 2 100000 [] [3, 5, 7] (by kernel_rfl) K888

theorem cellarerref10_Drop_con {l_894 : List (List UInt8 × Int × Int × Int)} {p_895 : List UInt8} {r : List (List UInt8 × Int × Int × Int)} (h : cellarerref10_Drop l_894 p_895 = some r) : Con Go.Proofs.Tryd.prog 21 [AV.list (Ty.prod Ty.str (Ty.prod (Ty.int IntKind.i64) (Ty.prod (Ty.int IntKind.i64) (Ty.int IntKind.i64)))) l_894 Bool.false, AV.str p_895] [] (cellarerref10_Drop_res r) (cellarerref10_Drop_out r) := by
  refine W.con (by kernel_rfl) ?_
  unfold cellarerref10_Drop at h
  refine W.at 0 100000 [Co.own 5 (Ty.prod Ty.str (Ty.prod (Ty.int IntKind.i64) (Ty.prod (Ty.int IntKind.i64) (Ty.int IntKind.i64))))] [0, 1, 5, 6] (c' := (fun (s_909 : Int × List (List UInt8 × Int × Int × Int)) => (Cfg.mk Mode.run (headTodo Go.Proofs.Tryd.prog 21 0) (St.mk [AV.list (Ty.prod Ty.str (Ty.prod (Ty.int IntKind.i64) (Ty.prod (Ty.int IntKind.i64) (Ty.int IntKind.i64)))) l_894 Bool.false, AV.str p_895, jj, jj, jj, AV.view (0 : Nat) (0 : Nat) Option.none, AV.int IntKind.i64 (Prod.fst s_909), jj, jj, jj, jj, jj, jj, jj, jj, jj, jj, jj, jj, jj, jj, jj, jj, jj, jj, jj, jj, jj] [AO.row (Ty.prod Ty.str (Ty.prod (Ty.int IntKind.i64) (Ty.prod (Ty.int IntKind.i64) (Ty.int IntKind.i64)))) (Prod.snd s_909)] (0 : Nat)))) ((0 : Int), [])) (by kernel_rfl) ?_
  refine W.loop (fun (s_909 : Int × List (List UInt8 × Int × Int × Int)) => (Cfg.mk Mode.run (headTodo Go.Proofs.Tryd.prog 21 0) (St.mk [AV.list (Ty.prod Ty.str (Ty.prod (Ty.int IntKind.i64) (Ty.prod (Ty.int IntKind.i64) (Ty.int IntKind.i64)))) l_894 Bool.false, AV.str p_895, jj, jj, jj, AV.view (0 : Nat) (0 : Nat) Option.none, AV.int IntKind.i64 (Prod.fst s_909), jj, jj, jj, jj, jj, jj, jj, jj, jj, jj, jj, jj, jj, jj, jj, jj, jj, jj, jj, jj, jj] [AO.row (Ty.prod Ty.str (Ty.prod (Ty.int IntKind.i64) (Ty.prod (Ty.int IntKind.i64) (Ty.int IntKind.i64)))) (Prod.snd s_909)] (0 : Nat)))) (fun t_904 => Walk Go.Proofs.Tryd.prog 21 (Cfg.mk Mode.run ((headTodo Go.Proofs.Tryd.prog 21 0).drop 3) (St.mk [jj, jj, jj, jj, jj, AV.view (0 : Nat) (0 : Nat) Option.none, jj, jj, jj, jj, jj, jj, jj, jj, jj, jj, jj, jj, jj, jj, jj, jj, jj, jj, jj, jj, jj, jj] [AO.row (Ty.prod Ty.str (Ty.prod (Ty.int IntKind.i64) (Ty.prod (Ty.int IntKind.i64) (Ty.int IntKind.i64)))) t_904] (0 : Nat))) (cellarerref10_Drop_res r) (cellarerref10_Drop_out r)) h (fun t_904 h => ?_) (fun s_909 x906 h906 K906 => ?_)
  ·
    exact W.retT 0 100000 h (by kernel_rfl)
  · unfold cellarerref10_Drop_b0 at h906
    refine W.cond 2 100000 h906 (by kernel_rfl) (fun h906 => ?_) (fun h906 => ?_)
    ·
      refine W.needT 2 100000 h906 (by kernel_rfl) (fun h906 => ?_)
      refine W.cond 2 100000 h906 (by kernel_rfl) (fun h906 => ?_) (fun h906 => ?_)
      ·
        refine W.needT 2 100000 h906 (by kernel_rfl) (fun h906 => ?_)
        refine W.needT 2 100000 h906 (by kernel_rfl) (fun h906 => ?_)
        cases h906; exact W.at 2 100000 [Co.own 5 (Ty.prod Ty.str (Ty.prod (Ty.int IntKind.i64) (Ty.prod (Ty.int IntKind.i64) (Ty.int IntKind.i64))))] [0, 1, 5, 6] (by kernel_rfl) K906
      ·
        cases h906; exact W.at 2 100000 [Co.own 5 (Ty.prod Ty.str (Ty.prod (Ty.int IntKind.i64) (Ty.prod (Ty.int IntKind.i64) (Ty.int IntKind.i64))))] [0, 1, 5, 6] (by kernel_rfl) K906
    ·
      cases h906; exact W.at 2 100000 [] [5] (by kernel_rfl) K906

end Go.Cellar
