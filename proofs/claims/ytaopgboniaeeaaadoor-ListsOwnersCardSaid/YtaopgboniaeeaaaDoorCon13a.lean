/- What the program's functions come to: printed by a program, checked by Lean. No condition. -/
import Derived.Test.YtaopgboniaeeaaaDoorFun13
import Derived.Test.YtaopgboniaeeaaaDoorIns13
set_option maxRecDepth 4000
set_option synthInstance.maxHeartbeats 2000000
set_option synthInstance.maxSize 100000
set_option linter.unusedVariables false
namespace Go.Cellar
open Go

theorem stringslite_HasPrefix_con {s_11 : List UInt8} {prefix_12 : List UInt8} {r : Bool} (h : stringslite_HasPrefix s_11 prefix_12 = some r) : Con Go.Proofs.Tryd.prog 85 [AV.str s_11, AV.str prefix_12] [] (stringslite_HasPrefix_res r) (stringslite_HasPrefix_out r) := by
  refine W.con (by kernel_rfl) ?_
  unfold stringslite_HasPrefix at h
  refine W.cond 0 100000 h (by kernel_rfl) (fun h => ?_) (fun h => ?_)
  ·
    refine W.yes 0 100000 (by kernel_rfl) ?_
    refine W.yes 0 100000 (by kernel_rfl) ?_
    refine W.yes 0 100000 (by kernel_rfl) ?_
    refine W.needT 0 100000 h (by kernel_rfl) (fun h => ?_)
    refine W.yes 0 100000 (by kernel_rfl) ?_
    refine W.yes 0 100000 (by kernel_rfl) ?_
    refine W.yes 0 100000 (by kernel_rfl) ?_
    exact W.retT 0 100000 h (by kernel_rfl)
  ·
    refine W.no 0 100000 (by kernel_rfl) ?_
    refine W.no 0 100000 (by kernel_rfl) ?_
    refine W.no 0 100000 (by kernel_rfl) ?_
    refine W.no 0 100000 (by kernel_rfl) ?_
    refine W.no 0 100000 (by kernel_rfl) ?_
    refine W.no 0 100000 (by kernel_rfl) ?_
    exact W.retT 0 100000 h (by kernel_rfl)

theorem strings_HasPrefix_con {s_9 : List UInt8} {prefix_10 : List UInt8} {r : Bool} (h : strings_HasPrefix s_9 prefix_10 = some r) : Con Go.Proofs.Tryd.prog 76 [AV.str s_9, AV.str prefix_10] [] (strings_HasPrefix_res r) (strings_HasPrefix_out r) := by
  refine W.con (by kernel_rfl) ?_
  unfold strings_HasPrefix at h
  refine W.bind h fun a_15 ha_15 h => ?_
  refine W.call 0 100000 (by kernel_rfl) (stringslite_HasPrefix_con ha_15) (by kernel_rfl) ?_
  exact W.retT 0 100000 h (by kernel_rfl)

theorem path_plain_con {s_3 : List UInt8} {r : Bool} (h : path_plain s_3 = some r) : Con Go.Proofs.Tryd.prog 67 [AV.str s_3] [] (path_plain_res r) (path_plain_out r) := by
  refine W.con (by kernel_rfl) ?_
  unfold path_plain at h
  refine W.at 0 100000 [] [0, 5, 6] (c' := (fun (s_23 : Int) => (Cfg.mk Mode.run (headTodo Go.Proofs.Tryd.prog 67 0) (St.mk [AV.str s_3, jj, jj, jj, jj, AV.int IntKind.i64 (↑(List.length s_3) : Int), AV.int IntKind.i64 s_23, jj, jj, jj, jj, jj, jj, jj, jj, jj, jj, jj, jj, jj, jj, jj] [] (0 : Nat)))) ((0 : Int))) (by kernel_rfl) ?_
  refine W.loop (fun (s_23 : Int) => (Cfg.mk Mode.run (headTodo Go.Proofs.Tryd.prog 67 0) (St.mk [AV.str s_3, jj, jj, jj, jj, AV.int IntKind.i64 (↑(List.length s_3) : Int), AV.int IntKind.i64 s_23, jj, jj, jj, jj, jj, jj, jj, jj, jj, jj, jj, jj, jj, jj, jj] [] (0 : Nat)))) (fun t => (Sum.elim (fun t_7 => r = (Bool.false)) (fun t_8 => Walk Go.Proofs.Tryd.prog 67 (Cfg.mk Mode.run ((headTodo Go.Proofs.Tryd.prog 67 0).drop 3) (St.mk [AV.str s_3, jj, jj, jj, jj, jj, jj, jj, jj, jj, jj, jj, jj, jj, jj, jj, jj, jj, jj, jj, jj, jj] [] (0 : Nat))) (path_plain_res r) (path_plain_out r))) t) h (fun t h => ?_) (fun s_23 x20 h20 K20 => ?_)
  ·
    rcases t with t_7 | t_8
    · replace h := W.inl (h)
      refine W.elimL (?_)
      exact (Option.some.inj h).symm
    · replace h := W.inr (h)
      refine W.elimR (?_)
      refine W.bind h fun a_18 ha_18 h => ?_
      refine W.call 0 100000 (by kernel_rfl) (strings_HasPrefix_con ha_18) (by kernel_rfl) ?_
      exact W.retT 0 100000 h (by kernel_rfl)
  · unfold path_plain_b0 at h20
    refine W.cond 2 100000 h20 (by kernel_rfl) (fun h20 => ?_) (fun h20 => ?_)
    ·
      refine W.needT 2 100000 h20 (by kernel_rfl) (fun h20 => ?_)
      refine W.cond 2 100000 h20 (by kernel_rfl) (fun h20 => ?_) (fun h20 => ?_)
      ·
        refine W.yes 2 100000 (by kernel_rfl) ?_
        refine W.yes 2 100000 (by kernel_rfl) ?_
        refine W.yes 2 100000 (by kernel_rfl) ?_
        refine W.yes 2 100000 (by kernel_rfl) ?_
        refine W.yes 2 100000 (by kernel_rfl) ?_
        cases h20; exact W.retK 2 100000 K20 (by kernel_rfl)
      ·
        refine W.no 2 100000 (by kernel_rfl) ?_
        refine W.no 2 100000 (by kernel_rfl) ?_
        refine W.needT 2 100000 h20 (by kernel_rfl) (fun h20 => ?_)
        refine W.no 2 100000 (by kernel_rfl) ?_
        refine W.no 2 100000 (by kernel_rfl) ?_
        refine W.cond 2 100000 h20 (by kernel_rfl) (fun h20 => ?_) (fun h20 => ?_)
        ·
          cases h20; exact W.retK 2 100000 K20 (by kernel_rfl)
        ·
          cases h20; exact W.at 2 100000 [] [0, 5, 6] (by kernel_rfl) K20
    ·
      cases h20; exact W.at 2 100000 [] [0] (by kernel_rfl) K20

theorem strings_Count_con {s_44 : List UInt8} {substr_45 : List UInt8} {r : Int} (h : strings_Count s_44 substr_45 = some r) : Con Go.Proofs.Tryd.prog 74 [AV.str s_44, AV.str substr_45] [] (strings_Count_res r) (strings_Count_out r) := by
  refine W.con (by kernel_rfl) ?_
  unfold strings_Count at h
  refine W.cond 0 100000 h (by kernel_rfl) (fun h => ?_) (fun h => ?_)
  ·
    exact nomatch h
  ·
    refine W.cond 0 100000 h (by kernel_rfl) (fun h => ?_) (fun h => ?_)
    ·
      refine W.needT 0 100000 h (by kernel_rfl) (fun h => ?_)
      exact W.retT 0 100000 h (by kernel_rfl)
    ·
      refine W.at 0 100000 [] [0, 1, 5] (c' := (fun (s_56 : List UInt8 × Int) => (Cfg.mk Mode.run (headTodo Go.Proofs.Tryd.prog 74 0) (St.mk [AV.str (Prod.fst s_56), AV.str substr_45, jj, jj, jj, AV.int IntKind.i64 (Prod.snd s_56), jj, jj, jj, jj, jj, jj, jj, jj, jj, jj, jj, jj, jj, jj, jj, jj, jj, jj, jj, jj, jj, jj, jj, jj, jj, jj, jj, jj] [] (0 : Nat)))) (s_44, (0 : Int))) (by kernel_rfl) ?_
      refine W.loop (fun (s_56 : List UInt8 × Int) => (Cfg.mk Mode.run (headTodo Go.Proofs.Tryd.prog 74 0) (St.mk [AV.str (Prod.fst s_56), AV.str substr_45, jj, jj, jj, AV.int IntKind.i64 (Prod.snd s_56), jj, jj, jj, jj, jj, jj, jj, jj, jj, jj, jj, jj, jj, jj, jj, jj, jj, jj, jj, jj, jj, jj, jj, jj, jj, jj, jj, jj] [] (0 : Nat)))) (fun t_51 => r = (t_51)) h (fun t_51 h => ?_) (fun s_56 x53 h53 K53 => ?_)
      ·
        exact (Option.some.inj h).symm
      · unfold strings_Count_b0 at h53
        refine W.bind h53 fun a_49 ha_49 h53 => ?_
        refine W.call 1 100000 (by kernel_rfl) (strings_Index_con ha_49) (by kernel_rfl) ?_
        refine W.cond 1 100000 h53 (by kernel_rfl) (fun h53 => ?_) (fun h53 => ?_)
        ·
          cases h53; exact W.retK 1 100000 K53 (by kernel_rfl)
        ·
          refine W.needT 1 100000 h53 (by kernel_rfl) (fun h53 => ?_)
          cases h53; exact W.at 1 100000 [] [0, 1, 5] (by kernel_rfl) K53

theorem strings_genSplit_con {s_38 : List UInt8} {sep_39 : List UInt8} {sepSave_40 : Int} {n_41 : Int} {r : List (List UInt8)} (h : strings_genSplit s_38 sep_39 sepSave_40 n_41 = some r) : Con Go.Proofs.Tryd.prog 65 [AV.str s_38, AV.str sep_39, AV.int IntKind.i64 sepSave_40, AV.int IntKind.i64 n_41] [] (strings_genSplit_res r) (strings_genSplit_out r) := by
  refine W.con (by kernel_rfl) ?_
  unfold strings_genSplit at h
  refine W.cond 0 100000 h (by kernel_rfl) (fun h => ?_) (fun h => ?_)
  ·
    exact W.retT 0 100000 h (by kernel_rfl)
  ·
    refine W.cond 0 100000 h (by kernel_rfl) (fun h => ?_) (fun h => ?_)
    ·
      exact nomatch h
    ·
      refine W.join (fun t_59 => Walk Go.Proofs.Tryd.prog 65 (Cfg.mk Mode.run (seqTodo Go.Proofs.Tryd.prog 65 7) (St.mk [AV.str s_38, AV.str sep_39, AV.int IntKind.i64 sepSave_40, AV.int IntKind.i64 t_59, jj, jj, jj, jj, jj, jj, jj, jj, jj, jj, jj, jj, jj, jj, jj, jj, jj, jj, jj, jj, jj, jj, jj, jj, jj, jj, jj, jj, jj, jj, jj, jj, jj, jj, jj, jj, jj, jj, jj, jj, jj, jj, jj, jj, jj, jj, jj, jj, jj, jj, jj, jj, jj, jj, jj, jj, jj, jj, jj, jj, jj, jj] [] (0 : Nat))) (strings_genSplit_res r) (strings_genSplit_out r)) h (fun t_59 h => ?_) (fun t73 h73 K73 => ?_)
      ·
        refine W.needT 0 100000 h (by kernel_rfl) (fun h => ?_)
        refine W.at 0 100000 [] [0, 1, 2, 3, 9, 10] (c' := (fun (s_76 : List UInt8 × Int × List (List UInt8)) => (Cfg.mk Mode.run (headTodo Go.Proofs.Tryd.prog 65 0) (St.mk [AV.str (Prod.fst s_76), AV.str sep_39, AV.int IntKind.i64 sepSave_40, AV.int IntKind.i64 (IntKind.wrap IntKind.i64 ((if IntKind.wrap IntKind.i64 ((↑(List.length s_38) : Int) + (1 : Int)) < t_59 then IntKind.wrap IntKind.i64 ((↑(List.length s_38) : Int) + (1 : Int)) else t_59) - (1 : Int))), jj, jj, jj, jj, jj, AV.view (0 : Nat) (0 : Nat) Option.none, AV.int IntKind.i64 (Prod.fst (Prod.snd s_76)), jj, jj, jj, jj, jj, jj, jj, jj, jj, jj, jj, jj, jj, jj, jj, jj, jj, jj, jj, jj, jj, jj, jj, jj, jj, jj, jj, jj, jj, jj, jj, jj, jj, jj, jj, jj, jj, jj, jj, jj, jj, jj, jj, jj, jj, jj, jj, jj, jj, jj, jj, jj, jj, jj, jj] [AO.row Ty.str (Prod.snd (Prod.snd s_76))] (0 : Nat)))) (s_38, (0 : Int), List.replicate (Int.toNat (if IntKind.wrap IntKind.i64 ((↑(List.length s_38) : Int) + (1 : Int)) < t_59 then IntKind.wrap IntKind.i64 ((↑(List.length s_38) : Int) + (1 : Int)) else t_59)) [])) (by kernel_rfl) ?_
        refine W.loop (fun (s_76 : List UInt8 × Int × List (List UInt8)) => (Cfg.mk Mode.run (headTodo Go.Proofs.Tryd.prog 65 0) (St.mk [AV.str (Prod.fst s_76), AV.str sep_39, AV.int IntKind.i64 sepSave_40, AV.int IntKind.i64 (IntKind.wrap IntKind.i64 ((if IntKind.wrap IntKind.i64 ((↑(List.length s_38) : Int) + (1 : Int)) < t_59 then IntKind.wrap IntKind.i64 ((↑(List.length s_38) : Int) + (1 : Int)) else t_59) - (1 : Int))), jj, jj, jj, jj, jj, AV.view (0 : Nat) (0 : Nat) Option.none, AV.int IntKind.i64 (Prod.fst (Prod.snd s_76)), jj, jj, jj, jj, jj, jj, jj, jj, jj, jj, jj, jj, jj, jj, jj, jj, jj, jj, jj, jj, jj, jj, jj, jj, jj, jj, jj, jj, jj, jj, jj, jj, jj, jj, jj, jj, jj, jj, jj, jj, jj, jj, jj, jj, jj, jj, jj, jj, jj, jj, jj, jj, jj, jj, jj] [AO.row Ty.str (Prod.snd (Prod.snd s_76))] (0 : Nat)))) (fun t_70 => Walk Go.Proofs.Tryd.prog 65 (Cfg.mk Mode.run ((headTodo Go.Proofs.Tryd.prog 65 0).drop 3) (St.mk [AV.str (Prod.fst t_70), jj, jj, jj, jj, jj, jj, jj, jj, AV.view (0 : Nat) (0 : Nat) Option.none, AV.int IntKind.i64 (Prod.fst (Prod.snd t_70)), jj, jj, jj, jj, jj, jj, jj, jj, jj, jj, jj, jj, jj, jj, jj, jj, jj, jj, jj, jj, jj, jj, jj, jj, jj, jj, jj, jj, jj, jj, jj, jj, jj, jj, jj, jj, jj, jj, jj, jj, jj, jj, jj, jj, jj, jj, jj, jj, jj, jj, jj, jj, jj, jj, jj] [AO.row Ty.str (Prod.snd (Prod.snd t_70))] (0 : Nat))) (strings_genSplit_res r) (strings_genSplit_out r)) h (fun t_70 h => ?_) (fun s_76 x72 h72 K72 => ?_)
        ·
          refine W.needT 0 100000 h (by kernel_rfl) (fun h => ?_)
          refine W.needT 0 100000 h (by kernel_rfl) (fun h => ?_)
          refine W.needT 0 100000 h (by kernel_rfl) (fun h => ?_)
          exact W.retT 0 100000 h (by kernel_rfl)
        · unfold strings_genSplit_b0 at h72
          refine W.cond 2 100000 h72 (by kernel_rfl) (fun h72 => ?_) (fun h72 => ?_)
          ·
            refine W.bind h72 fun a_66 ha_66 h72 => ?_
            refine W.call 2 100000 (by kernel_rfl) (strings_Index_con ha_66) (by kernel_rfl) ?_
            refine W.cond 2 100000 h72 (by kernel_rfl) (fun h72 => ?_) (fun h72 => ?_)
            ·
              cases h72; exact W.at 2 100000 [] [0, 9, 10] (by kernel_rfl) K72
            ·
              refine W.needT 2 100000 h72 (by kernel_rfl) (fun h72 => ?_)
              refine W.needT 2 100000 h72 (by kernel_rfl) (fun h72 => ?_)
              refine W.needT 2 100000 h72 (by kernel_rfl) (fun h72 => ?_)
              refine W.needT 2 100000 h72 (by kernel_rfl) (fun h72 => ?_)
              cases h72; exact W.at 2 100000 [] [0, 1, 2, 3, 9, 10] (by kernel_rfl) K72
          ·
            cases h72; exact W.at 2 100000 [] [0, 9, 10] (by kernel_rfl) K72
      · refine W.next 0 2 (by kernel_rfl) ?_
        refine W.cond 1 100000 h73 (by kernel_rfl) (fun h73 => ?_) (fun h73 => ?_)
        ·
          refine W.bind h73 fun a_57 ha_57 h73 => ?_
          refine W.call 1 100000 (by kernel_rfl) (strings_Count_con ha_57) (by kernel_rfl) ?_
          cases h73; exact W.at 1 100000 [] [0, 1, 2, 3] (by kernel_rfl) K73
        ·
          cases h73; exact W.at 1 100000 [] [0, 1, 2, 3] (by kernel_rfl) K73

theorem strings_Split_con {s_26 : List UInt8} {sep_27 : List UInt8} {r : List (List UInt8)} (h : strings_Split s_26 sep_27 = some r) : Con Go.Proofs.Tryd.prog 54 [AV.str s_26, AV.str sep_27] [] (strings_Split_res r) (strings_Split_out r) := by
  refine W.con (by kernel_rfl) ?_
  unfold strings_Split at h
  refine W.bind h fun a_77 ha_77 h => ?_
  refine W.call 0 100000 (by kernel_rfl) (strings_genSplit_con ha_77) (by kernel_rfl) ?_
  exact W.retT 0 100000 h (by kernel_rfl)

theorem path_Parts_1_con {p_85 : List UInt8} {r : Bool} (h : path_Parts_1 p_85 = some r) : Con Go.Proofs.Tryd.prog 78 [AV.str p_85] [] (path_Parts_1_res r) (path_Parts_1_out r) := by
  refine W.con (by kernel_rfl) ?_
  unfold path_Parts_1 at h
  exact W.retT 0 100000 h (by kernel_rfl)

theorem path_keep_string__con {l_81 : List (List UInt8)} {r : List (List UInt8)} (h : path_keep_string_ l_81 = some r) : Con Go.Proofs.Tryd.prog 77 [AV.list Ty.str l_81 Bool.false, AV.func (Go.Fn.func (78 : Nat)) [] []] [] (path_keep_string__res r) (path_keep_string__out r) := by
  refine W.con (by kernel_rfl) ?_
  unfold path_keep_string_ at h
  refine W.at 0 100000 [Co.own 5 (Ty.str)] [1, 5, 8, 9, 10] (c' := (fun (s_100 : Int × List (List UInt8)) => (Cfg.mk Mode.run (headTodo Go.Proofs.Tryd.prog 77 0) (St.mk [jj, AV.func (Go.Fn.func (78 : Nat)) [] [], jj, jj, jj, AV.view (0 : Nat) (0 : Nat) Option.none, jj, jj, AV.list Ty.str l_81 Bool.false, AV.int IntKind.i64 (↑(List.length l_81) : Int), AV.int IntKind.i64 (Prod.fst s_100), jj, jj, jj, jj, jj, jj, jj, jj, jj, jj, jj, jj] [AO.row Ty.str (Prod.snd s_100)] (0 : Nat)))) ((0 : Int), [])) (by kernel_rfl) ?_
  refine W.loop (fun (s_100 : Int × List (List UInt8)) => (Cfg.mk Mode.run (headTodo Go.Proofs.Tryd.prog 77 0) (St.mk [jj, AV.func (Go.Fn.func (78 : Nat)) [] [], jj, jj, jj, AV.view (0 : Nat) (0 : Nat) Option.none, jj, jj, AV.list Ty.str l_81 Bool.false, AV.int IntKind.i64 (↑(List.length l_81) : Int), AV.int IntKind.i64 (Prod.fst s_100), jj, jj, jj, jj, jj, jj, jj, jj, jj, jj, jj, jj] [AO.row Ty.str (Prod.snd s_100)] (0 : Nat)))) (fun t_95 => Walk Go.Proofs.Tryd.prog 77 (Cfg.mk Mode.run ((headTodo Go.Proofs.Tryd.prog 77 0).drop 3) (St.mk [jj, jj, jj, jj, jj, AV.view (0 : Nat) (0 : Nat) Option.none, jj, jj, jj, jj, jj, jj, jj, jj, jj, jj, jj, jj, jj, jj, jj, jj, jj] [AO.row Ty.str t_95] (0 : Nat))) (path_keep_string__res r) (path_keep_string__out r)) h (fun t_95 h => ?_) (fun s_100 x97 h97 K97 => ?_)
  ·
    exact W.retT 0 100000 h (by kernel_rfl)
  · unfold path_keep_string__b0 at h97
    refine W.cond 2 100000 h97 (by kernel_rfl) (fun h97 => ?_) (fun h97 => ?_)
    ·
      refine W.needT 2 100000 h97 (by kernel_rfl) (fun h97 => ?_)
      refine W.bind h97 fun a_93 ha_93 h97 => ?_
      refine W.call 2 100000 (by kernel_rfl) (path_Parts_1_con ha_93) (by kernel_rfl) ?_
      refine W.cond 2 100000 h97 (by kernel_rfl) (fun h97 => ?_) (fun h97 => ?_)
      ·
        refine W.needT 2 100000 h97 (by kernel_rfl) (fun h97 => ?_)
        cases h97; exact W.at 2 100000 [Co.own 5 (Ty.str)] [1, 5, 8, 9, 10] (by kernel_rfl) K97
      ·
        cases h97; exact W.at 2 100000 [Co.own 5 (Ty.str)] [1, 5, 8, 9, 10] (by kernel_rfl) K97
    ·
      cases h97; exact W.at 2 100000 [] [5] (by kernel_rfl) K97

theorem path_Parts_con {s_25 : List UInt8} {r : List (List UInt8)} (h : path_Parts s_25 = some r) : Con Go.Proofs.Tryd.prog 68 [AV.str s_25] [] (path_Parts_res r) (path_Parts_out r) := by
  refine W.con (by kernel_rfl) ?_
  unfold path_Parts at h
  refine W.bind h fun a_80 ha_80 h => ?_
  refine W.call 0 100000 (by kernel_rfl) (strings_Split_con ha_80) (by kernel_rfl) ?_
  refine W.bind h fun a_101 ha_101 h => ?_
  refine W.call 0 100000 (by kernel_rfl) (path_keep_string__con ha_101) (by kernel_rfl) ?_
  exact W.retT 0 100000 h (by kernel_rfl)

theorem path_Clean_con {s_2 : List UInt8} {r : List UInt8 × Int} (h : path_Clean s_2 = some r) : Con Go.Proofs.Tryd.prog 57 [AV.str s_2] [] (path_Clean_res r) (path_Clean_out r) := by
  refine W.con (by kernel_rfl) ?_
  unfold path_Clean at h
  refine W.bind h fun a_24 ha_24 h => ?_
  refine W.call 0 100000 (by kernel_rfl) (path_plain_con ha_24) (by kernel_rfl) ?_
  refine W.cond 0 100000 h (by kernel_rfl) (fun h => ?_) (fun h => ?_)
  ·
    exact W.retT 0 100000 h (by kernel_rfl)
  ·
    refine W.bind h fun a_104 ha_104 h => ?_
    refine W.call 0 100000 (by kernel_rfl) (path_Parts_con ha_104) (by kernel_rfl) ?_
    refine W.at 0 100000 [Co.own 4 (Ty.str)] [4, 12, 13, 14] (c' := (fun (s_120 : Int × List (List UInt8)) => (Cfg.mk Mode.run (headTodo Go.Proofs.Tryd.prog 57 0) (St.mk [jj, jj, jj, jj, AV.view (0 : Nat) (0 : Nat) Option.none, jj, jj, jj, jj, jj, jj, jj, AV.view (1 : Nat) (0 : Nat) Option.none, AV.int IntKind.i64 ((↑(List.length a_104) : Int) - (↑(0 : Nat) : Int)), AV.int IntKind.i64 (Prod.fst s_120), jj, jj, jj, jj, jj, jj, jj, jj, jj, jj, jj, jj, jj, jj, jj, jj, jj, jj, jj, jj, jj, jj, jj, jj, jj, jj, jj] [AO.row Ty.str (Prod.snd s_120), AO.row Ty.str a_104] (0 : Nat)))) ((0 : Int), [])) (by kernel_rfl) ?_
    refine W.loop (fun (s_120 : Int × List (List UInt8)) => (Cfg.mk Mode.run (headTodo Go.Proofs.Tryd.prog 57 0) (St.mk [jj, jj, jj, jj, AV.view (0 : Nat) (0 : Nat) Option.none, jj, jj, jj, jj, jj, jj, jj, AV.view (1 : Nat) (0 : Nat) Option.none, AV.int IntKind.i64 ((↑(List.length a_104) : Int) - (↑(0 : Nat) : Int)), AV.int IntKind.i64 (Prod.fst s_120), jj, jj, jj, jj, jj, jj, jj, jj, jj, jj, jj, jj, jj, jj, jj, jj, jj, jj, jj, jj, jj, jj, jj, jj, jj, jj, jj] [AO.row Ty.str (Prod.snd s_120), AO.row Ty.str a_104] (0 : Nat)))) (fun t_113 => Walk Go.Proofs.Tryd.prog 57 (Cfg.mk Mode.run ((headTodo Go.Proofs.Tryd.prog 57 0).drop 3) (St.mk [jj, jj, jj, jj, AV.view (0 : Nat) (0 : Nat) Option.none, jj, jj, jj, jj, jj, jj, jj, jj, jj, jj, jj, jj, jj, jj, jj, jj, jj, jj, jj, jj, jj, jj, jj, jj, jj, jj, jj, jj, jj, jj, jj, jj, jj, jj, jj, jj, jj] [AO.row Ty.str t_113] (0 : Nat))) (path_Clean_res r) (path_Clean_out r)) h (fun t_113 h => ?_) (fun s_120 x116 h116 K116 => ?_)
    ·
      refine W.bind h fun a_114 ha_114 h => ?_
      refine W.call 0 100000 (by kernel_rfl) (strings_Join_con ha_114) (by kernel_rfl) ?_
      refine W.needT 0 100000 h (by kernel_rfl) (fun h => ?_)
      refine W.cond 0 100000 h (by kernel_rfl) (fun h => ?_) (fun h => ?_)
      ·
        exact W.retT 0 100000 h (by kernel_rfl)
      ·
        exact W.retT 0 100000 h (by kernel_rfl)
    · unfold path_Clean_b0 at h116
      refine W.cond 2 100000 h116 (by kernel_rfl) (fun h116 => ?_) (fun h116 => ?_)
      ·
        refine W.needT 2 100000 h116 (by kernel_rfl) (fun h116 => ?_)
        refine W.needT 2 100000 h116 (by kernel_rfl) (fun h116 => ?_)
        refine W.cond 2 100000 h116 (by kernel_rfl) (fun h116 => ?_) (fun h116 => ?_)
        ·
          cases h116; exact W.at 2 100000 [Co.own 4 (Ty.str)] [4, 12, 13, 14] (by kernel_rfl) K116
        ·
          refine W.cond 2 100000 h116 (by kernel_rfl) (fun h116 => ?_) (fun h116 => ?_)
          ·
            refine W.needT 2 100000 h116 (by kernel_rfl) (fun h116 => ?_)
            cases h116; exact W.at 2 100000 [Co.own 4 (Ty.str)] [4, 12, 13, 14] (by kernel_rfl) K116
          ·
            refine W.needT 2 100000 h116 (by kernel_rfl) (fun h116 => ?_)
            cases h116; exact W.at 2 100000 [Co.own 4 (Ty.str)] [4, 12, 13, 14] (by kernel_rfl) K116
      ·
        cases h116; exact W.at 2 100000 [] [4] (by kernel_rfl) K116

theorem path_Right_con {s_1 : List UInt8} {r : Bool} (h : path_Right s_1 = some r) : Con Go.Proofs.Tryd.prog 35 [AV.str s_1] [] (path_Right_res r) (path_Right_out r) := by
  refine W.con (by kernel_rfl) ?_
  unfold path_Right at h
  refine W.bind h fun a_121 ha_121 h => ?_
  refine W.call 0 100000 (by kernel_rfl) (path_Clean_con ha_121) (by kernel_rfl) ?_
  refine W.cond 0 100000 h (by kernel_rfl) (fun h => ?_) (fun h => ?_)
  ·
    refine W.yes 0 100000 (by kernel_rfl) ?_
    refine W.yes 0 100000 (by kernel_rfl) ?_
    refine W.yes 0 100000 (by kernel_rfl) ?_
    exact W.retT 0 100000 h (by kernel_rfl)
  ·
    refine W.no 0 100000 (by kernel_rfl) ?_
    refine W.no 0 100000 (by kernel_rfl) ?_
    refine W.no 0 100000 (by kernel_rfl) ?_
    exact W.retT 0 100000 h (by kernel_rfl)

theorem path_Name_con {s_125 : List UInt8} {r : Bool} (h : path_Name s_125 = some r) : Con Go.Proofs.Tryd.prog 36 [AV.str s_125] [] (path_Name_res r) (path_Name_out r) := by
  refine W.con (by kernel_rfl) ?_
  unfold path_Name at h
  refine W.join (fun t => (Sum.elim (fun t_126 => r = (Bool.false)) (fun t_127 => Walk Go.Proofs.Tryd.prog 36 (Cfg.mk Mode.run (seqTodo Go.Proofs.Tryd.prog 36 1) (St.mk [AV.str s_125, jj, jj, jj, jj, jj, jj, jj, jj, jj, jj, jj, jj, jj, jj, jj, jj, jj, jj, jj, jj, jj, jj, jj, jj, jj, jj, jj, jj, jj, jj, jj, jj, jj, jj, jj, jj, jj, jj, jj, jj, jj, jj, jj, jj, jj, jj, jj, jj, jj, jj, jj, jj, jj, jj] [] (0 : Nat))) (path_Name_res r) (path_Name_out r))) t) h (fun t h => ?_) (fun t138 h138 K138 => ?_)
  ·
    rcases t with t_126 | t_127
    · replace h := W.inl (h)
      refine W.elimL (?_)
      exact (Option.some.inj h).symm
    · replace h := W.inr (h)
      refine W.elimR (?_)
      refine W.at 0 100000 [] [0, 15, 16] (c' := (fun (s_141 : Int) => (Cfg.mk Mode.run (headTodo Go.Proofs.Tryd.prog 36 0) (St.mk [AV.str s_125, jj, jj, jj, jj, jj, jj, jj, jj, jj, jj, jj, jj, jj, jj, AV.int IntKind.i64 (↑(List.length s_125) : Int), AV.int IntKind.i64 s_141, jj, jj, jj, jj, jj, jj, jj, jj, jj, jj, jj, jj, jj, jj, jj, jj, jj, jj, jj, jj, jj, jj, jj, jj, jj, jj, jj, jj, jj, jj, jj, jj, jj, jj, jj, jj, jj, jj] [] (0 : Nat)))) ((0 : Int))) (by kernel_rfl) ?_
      refine W.loop (fun (s_141 : Int) => (Cfg.mk Mode.run (headTodo Go.Proofs.Tryd.prog 36 0) (St.mk [AV.str s_125, jj, jj, jj, jj, jj, jj, jj, jj, jj, jj, jj, jj, jj, jj, AV.int IntKind.i64 (↑(List.length s_125) : Int), AV.int IntKind.i64 s_141, jj, jj, jj, jj, jj, jj, jj, jj, jj, jj, jj, jj, jj, jj, jj, jj, jj, jj, jj, jj, jj, jj, jj, jj, jj, jj, jj, jj, jj, jj, jj, jj, jj, jj, jj, jj, jj, jj] [] (0 : Nat)))) (fun t => (Sum.elim (fun t_134 => r = (Bool.false)) (fun t_135 => Walk Go.Proofs.Tryd.prog 36 (Cfg.mk Mode.run ((headTodo Go.Proofs.Tryd.prog 36 0).drop 3) (St.mk [jj, jj, jj, jj, jj, jj, jj, jj, jj, jj, jj, jj, jj, jj, jj, jj, jj, jj, jj, jj, jj, jj, jj, jj, jj, jj, jj, jj, jj, jj, jj, jj, jj, jj, jj, jj, jj, jj, jj, jj, jj, jj, jj, jj, jj, jj, jj, jj, jj, jj, jj, jj, jj, jj, jj] [] (0 : Nat))) (path_Name_res r) (path_Name_out r))) t) h (fun t h => ?_) (fun s_141 x137 h137 K137 => ?_)
      ·
        rcases t with t_134 | t_135
        · replace h := W.inl (h)
          refine W.elimL (?_)
          exact (Option.some.inj h).symm
        · replace h := W.inr (h)
          refine W.elimR (?_)
          exact W.retT 0 100000 h (by kernel_rfl)
      · unfold path_Name_b0 at h137
        refine W.cond 2 100000 h137 (by kernel_rfl) (fun h137 => ?_) (fun h137 => ?_)
        ·
          refine W.needT 2 100000 h137 (by kernel_rfl) (fun h137 => ?_)
          refine W.join (fun t_132 => Walk Go.Proofs.Tryd.prog 36 (Cfg.mk Mode.run (seqTodo Go.Proofs.Tryd.prog 36 11) (St.mk [AV.str s_125, jj, jj, AV.int IntKind.i64 s_141, AV.int IntKind.u8 (↑(UInt8.toNat (List.getD s_125 (Int.toNat s_141) (0 : UInt8))) : Int), AV.bool t_132, jj, jj, jj, jj, jj, jj, jj, jj, jj, AV.int IntKind.i64 (↑(List.length s_125) : Int), AV.int IntKind.i64 s_141, jj, jj, jj, jj, jj, jj, jj, jj, jj, jj, jj, jj, jj, jj, jj, jj, jj, jj, jj, jj, jj, jj, jj, jj, jj, jj, jj, jj, jj, jj, jj, jj, jj, jj, jj, jj, jj, jj] [] (0 : Nat))) (path_Name_res r) (path_Name_out r)) h137 (fun t_132 h137 => ?_) (fun t134 h134 K134 => ?_)
          ·
            refine W.cond 2 100000 h137 (by kernel_rfl) (fun h137 => ?_) (fun h137 => ?_)
            ·
              refine W.yes 2 100000 (by kernel_rfl) ?_
              refine W.yes 2 100000 (by kernel_rfl) ?_
              refine W.cond 2 100000 h137 (by kernel_rfl) (fun h137 => ?_) (fun h137 => ?_)
              ·
                refine W.yes 2 100000 (by kernel_rfl) ?_
                refine W.yes 2 100000 (by kernel_rfl) ?_
                refine W.yes 2 100000 (by kernel_rfl) ?_
                refine W.yes 2 100000 (by kernel_rfl) ?_
                refine W.yes 2 100000 (by kernel_rfl) ?_
                refine W.yes 2 100000 (by kernel_rfl) ?_
                refine W.yes 2 100000 (by kernel_rfl) ?_
                refine W.yes 2 100000 (by kernel_rfl) ?_
                refine W.yes 2 100000 (by kernel_rfl) ?_
                cases h137; exact W.retK 2 100000 K137 (by kernel_rfl)
              ·
                refine W.no 2 100000 (by kernel_rfl) ?_
                refine W.no 2 100000 (by kernel_rfl) ?_
                refine W.cond 2 100000 h137 (by kernel_rfl) (fun h137 => ?_) (fun h137 => ?_)
                ·
                  refine W.yes 2 100000 (by kernel_rfl) ?_
                  refine W.no 2 100000 (by kernel_rfl) ?_
                  refine W.yes 2 100000 (by kernel_rfl) ?_
                  refine W.no 2 100000 (by kernel_rfl) ?_
                  refine W.cond 2 100000 h137 (by kernel_rfl) (fun h137 => ?_) (fun h137 => ?_)
                  ·
                    refine W.yes 2 100000 (by kernel_rfl) ?_
                    refine W.no 2 100000 (by kernel_rfl) ?_
                    refine W.yes 2 100000 (by kernel_rfl) ?_
                    refine W.yes 2 100000 (by kernel_rfl) ?_
                    refine W.no 2 100000 (by kernel_rfl) ?_
                    refine W.yes 2 100000 (by kernel_rfl) ?_
                    refine W.cond 2 100000 h137 (by kernel_rfl) (fun h137 => ?_) (fun h137 => ?_)
                    ·
                      cases h137; exact W.retK 2 100000 K137 (by kernel_rfl)
                    ·
                      cases h137; exact W.at 2 100000 [] [0, 15, 16] (by kernel_rfl) K137
                  ·
                    refine W.no 2 100000 (by kernel_rfl) ?_
                    refine W.no 2 100000 (by kernel_rfl) ?_
                    refine W.no 2 100000 (by kernel_rfl) ?_
                    refine W.yes 2 100000 (by kernel_rfl) ?_
                    refine W.no 2 100000 (by kernel_rfl) ?_
                    refine W.yes 2 100000 (by kernel_rfl) ?_
                    refine W.no 2 100000 (by kernel_rfl) ?_
                    cases h137; exact W.at 2 100000 [] [0, 15, 16] (by kernel_rfl) K137
                ·
                  refine W.no 2 100000 (by kernel_rfl) ?_
                  refine W.no 2 100000 (by kernel_rfl) ?_
                  refine W.no 2 100000 (by kernel_rfl) ?_
                  refine W.no 2 100000 (by kernel_rfl) ?_
                  refine W.no 2 100000 (by kernel_rfl) ?_
                  refine W.no 2 100000 (by kernel_rfl) ?_
                  refine W.no 2 100000 (by kernel_rfl) ?_
                  refine W.no 2 100000 (by kernel_rfl) ?_
                  refine W.yes 2 100000 (by kernel_rfl) ?_
                  refine W.no 2 100000 (by kernel_rfl) ?_
                  refine W.yes 2 100000 (by kernel_rfl) ?_
                  refine W.no 2 100000 (by kernel_rfl) ?_
                  cases h137; exact W.at 2 100000 [] [0, 15, 16] (by kernel_rfl) K137
            ·
              refine W.no 2 100000 (by kernel_rfl) ?_
              refine W.no 2 100000 (by kernel_rfl) ?_
              refine W.no 2 100000 (by kernel_rfl) ?_
              refine W.no 2 100000 (by kernel_rfl) ?_
              refine W.no 2 100000 (by kernel_rfl) ?_
              cases h137; exact W.at 2 100000 [] [0, 15, 16] (by kernel_rfl) K137
          · refine W.next 2 3 (by kernel_rfl) ?_
            refine W.cond 6 100000 h134 (by kernel_rfl) (fun h134 => ?_) (fun h134 => ?_)
            ·
              refine W.yes 6 100000 (by kernel_rfl) ?_
              refine W.yes 6 100000 (by kernel_rfl) ?_
              refine W.cond 6 100000 h134 (by kernel_rfl) (fun h134 => ?_) (fun h134 => ?_)
              ·
                refine W.yes 6 100000 (by kernel_rfl) ?_
                refine W.yes 6 100000 (by kernel_rfl) ?_
                refine W.yes 6 100000 (by kernel_rfl) ?_
                refine W.yes 6 100000 (by kernel_rfl) ?_
                cases h134; exact W.at 6 100000 [] [0, 3, 4, 5, 15, 16] (by kernel_rfl) K134
              ·
                refine W.no 6 100000 (by kernel_rfl) ?_
                refine W.no 6 100000 (by kernel_rfl) ?_
                refine W.cond 6 100000 h134 (by kernel_rfl) (fun h134 => ?_) (fun h134 => ?_)
                ·
                  refine W.yes 6 100000 (by kernel_rfl) ?_
                  refine W.no 6 100000 (by kernel_rfl) ?_
                  refine W.yes 6 100000 (by kernel_rfl) ?_
                  refine W.no 6 100000 (by kernel_rfl) ?_
                  cases h134; exact W.at 6 100000 [] [0, 3, 4, 5, 15, 16] (by kernel_rfl) K134
                ·
                  refine W.no 6 100000 (by kernel_rfl) ?_
                  refine W.no 6 100000 (by kernel_rfl) ?_
                  refine W.no 6 100000 (by kernel_rfl) ?_
                  refine W.no 6 100000 (by kernel_rfl) ?_
                  cases h134; exact W.at 6 100000 [] [0, 3, 4, 5, 15, 16] (by kernel_rfl) K134
            ·
              refine W.no 6 100000 (by kernel_rfl) ?_
              refine W.no 6 100000 (by kernel_rfl) ?_
              refine W.no 6 100000 (by kernel_rfl) ?_
              refine W.no 6 100000 (by kernel_rfl) ?_
              refine W.no 6 100000 (by kernel_rfl) ?_
              refine W.cond 6 100000 h134 (by kernel_rfl) (fun h134 => ?_) (fun h134 => ?_)
              ·
                refine W.yes 6 100000 (by kernel_rfl) ?_
                refine W.no 6 100000 (by kernel_rfl) ?_
                refine W.yes 6 100000 (by kernel_rfl) ?_
                refine W.no 6 100000 (by kernel_rfl) ?_
                cases h134; exact W.at 6 100000 [] [0, 3, 4, 5, 15, 16] (by kernel_rfl) K134
              ·
                refine W.no 6 100000 (by kernel_rfl) ?_
                refine W.no 6 100000 (by kernel_rfl) ?_
                refine W.no 6 100000 (by kernel_rfl) ?_
                refine W.no 6 100000 (by kernel_rfl) ?_
                cases h134; exact W.at 6 100000 [] [0, 3, 4, 5, 15, 16] (by kernel_rfl) K134
        ·
          cases h137; exact W.at 2 100000 [] [] (by kernel_rfl) K137
  · refine W.next 0 5 (by kernel_rfl) ?_
    refine W.cond 1 100000 h138 (by kernel_rfl) (fun h138 => ?_) (fun h138 => ?_)
    ·
      refine W.yes 1 100000 (by kernel_rfl) ?_
      refine W.yes 1 100000 (by kernel_rfl) ?_
      refine W.yes 1 100000 (by kernel_rfl) ?_
      refine W.yes 1 100000 (by kernel_rfl) ?_
      cases h138; exact W.retK 1 100000 K138 (by kernel_rfl)
    ·
      refine W.no 1 100000 (by kernel_rfl) ?_
      refine W.no 1 100000 (by kernel_rfl) ?_
      refine W.no 1 100000 (by kernel_rfl) ?_
      refine W.cond 1 100000 h138 (by kernel_rfl) (fun h138 => ?_) (fun h138 => ?_)
      ·
        cases h138; exact W.retK 1 100000 K138 (by kernel_rfl)
      ·
        cases h138; exact W.at 1 100000 [] [0] (by kernel_rfl) K138

theorem cellarerref02_Parts_con {s_151 : List UInt8} {r : List (List UInt8)} (h : cellarerref02_Parts s_151 = some r) : Con Go.Proofs.Tryd.prog 70 [AV.str s_151] [] (cellarerref02_Parts_res r) (cellarerref02_Parts_out r) := by
  refine W.con (by kernel_rfl) ?_
  unfold cellarerref02_Parts at h
  refine W.at 0 100000 [Co.own 3 (Ty.str)] [0, 3, 4, 5] (c' := (fun (s_166 : List UInt8 × Int × List (List UInt8)) => (Cfg.mk Mode.run (headTodo Go.Proofs.Tryd.prog 70 0) (St.mk [AV.str s_151, jj, jj, AV.view (0 : Nat) (0 : Nat) Option.none, AV.str (Prod.fst s_166), AV.int IntKind.i64 (Prod.fst (Prod.snd s_166)), jj, jj, jj, jj, jj, jj, jj, jj, jj, jj, jj, jj, jj, jj, jj, jj, jj, jj, jj, jj, jj, jj, jj, jj, jj, jj, jj, jj, jj, jj] [AO.row Ty.str (Prod.snd (Prod.snd s_166))] (0 : Nat)))) ([], (0 : Int), [])) (by kernel_rfl) ?_
  refine W.loop (fun (s_166 : List UInt8 × Int × List (List UInt8)) => (Cfg.mk Mode.run (headTodo Go.Proofs.Tryd.prog 70 0) (St.mk [AV.str s_151, jj, jj, AV.view (0 : Nat) (0 : Nat) Option.none, AV.str (Prod.fst s_166), AV.int IntKind.i64 (Prod.fst (Prod.snd s_166)), jj, jj, jj, jj, jj, jj, jj, jj, jj, jj, jj, jj, jj, jj, jj, jj, jj, jj, jj, jj, jj, jj, jj, jj, jj, jj, jj, jj, jj, jj] [AO.row Ty.str (Prod.snd (Prod.snd s_166))] (0 : Nat)))) (fun t_161 => Walk Go.Proofs.Tryd.prog 70 (Cfg.mk Mode.run ((headTodo Go.Proofs.Tryd.prog 70 0).drop 3) (St.mk [jj, jj, jj, AV.view (0 : Nat) (0 : Nat) Option.none, AV.str (Prod.fst t_161), jj, jj, jj, jj, jj, jj, jj, jj, jj, jj, jj, jj, jj, jj, jj, jj, jj, jj, jj, jj, jj, jj, jj, jj, jj, jj, jj, jj, jj, jj, jj] [AO.row Ty.str (Prod.snd t_161)] (0 : Nat))) (cellarerref02_Parts_res r) (cellarerref02_Parts_out r)) h (fun t_161 h => ?_) (fun s_166 x163 h163 K163 => ?_)
  ·
    refine W.cond 0 100000 h (by kernel_rfl) (fun h => ?_) (fun h => ?_)
    ·
      refine W.needT 0 100000 h (by kernel_rfl) (fun h => ?_)
      exact W.retT 0 100000 h (by kernel_rfl)
    ·
      exact W.retT 0 100000 h (by kernel_rfl)
  · unfold cellarerref02_Parts_b0 at h163
    refine W.cond 2 100000 h163 (by kernel_rfl) (fun h163 => ?_) (fun h163 => ?_)
    ·
      refine W.needT 2 100000 h163 (by kernel_rfl) (fun h163 => ?_)
      refine W.cond 2 100000 h163 (by kernel_rfl) (fun h163 => ?_) (fun h163 => ?_)
      ·
        refine W.needT 2 100000 h163 (by kernel_rfl) (fun h163 => ?_)
        refine W.needT 2 100000 h163 (by kernel_rfl) (fun h163 => ?_)
        cases h163; exact W.at 2 100000 [Co.own 3 (Ty.str)] [0, 3, 4, 5] (by kernel_rfl) K163
      ·
        refine W.cond 2 100000 h163 (by kernel_rfl) (fun h163 => ?_) (fun h163 => ?_)
        ·
          refine W.needT 2 100000 h163 (by kernel_rfl) (fun h163 => ?_)
          cases h163; exact W.at 2 100000 [Co.own 3 (Ty.str)] [0, 3, 4, 5] (by kernel_rfl) K163
        ·
          cases h163; exact W.at 2 100000 [Co.own 3 (Ty.str)] [0, 3, 4, 5] (by kernel_rfl) K163
    ·
      cases h163; exact W.at 2 100000 [] [3, 4] (by kernel_rfl) K163

theorem cellarerref02_Joined_con {l_175 : List (List UInt8)} {r : List UInt8} (h : cellarerref02_Joined l_175 = some r) : Con Go.Proofs.Tryd.prog 71 [AV.list Ty.str l_175 Bool.false] [] (cellarerref02_Joined_res r) (cellarerref02_Joined_out r) := by
  refine W.con (by kernel_rfl) ?_
  unfold cellarerref02_Joined at h
  refine W.cond 0 100000 h (by kernel_rfl) (fun h => ?_) (fun h => ?_)
  ·
    exact W.retT 0 100000 h (by kernel_rfl)
  ·
    refine W.at 0 100000 [] [0, 3, 4] (c' := (fun (s_185 : List UInt8 × Int) => (Cfg.mk Mode.run (headTodo Go.Proofs.Tryd.prog 71 0) (St.mk [AV.list Ty.str l_175 Bool.false, jj, jj, AV.str (Prod.fst s_185), AV.int IntKind.i64 (Prod.snd s_185), jj, jj, jj, jj, jj, jj, jj, jj, jj, jj, jj, jj, jj, jj, jj, jj, jj] [] (0 : Nat)))) ([], (0 : Int))) (by kernel_rfl) ?_
    refine W.loop (fun (s_185 : List UInt8 × Int) => (Cfg.mk Mode.run (headTodo Go.Proofs.Tryd.prog 71 0) (St.mk [AV.list Ty.str l_175 Bool.false, jj, jj, AV.str (Prod.fst s_185), AV.int IntKind.i64 (Prod.snd s_185), jj, jj, jj, jj, jj, jj, jj, jj, jj, jj, jj, jj, jj, jj, jj, jj, jj] [] (0 : Nat)))) (fun t_180 => Walk Go.Proofs.Tryd.prog 71 (Cfg.mk Mode.run ((headTodo Go.Proofs.Tryd.prog 71 0).drop 3) (St.mk [jj, jj, jj, AV.str t_180, jj, jj, jj, jj, jj, jj, jj, jj, jj, jj, jj, jj, jj, jj, jj, jj, jj, jj] [] (0 : Nat))) (cellarerref02_Joined_res r) (cellarerref02_Joined_out r)) h (fun t_180 h => ?_) (fun s_185 x182 h182 K182 => ?_)
    ·
      exact W.retT 0 100000 h (by kernel_rfl)
    · unfold cellarerref02_Joined_b0 at h182
      refine W.cond 2 100000 h182 (by kernel_rfl) (fun h182 => ?_) (fun h182 => ?_)
      ·
        refine W.needT 2 100000 h182 (by kernel_rfl) (fun h182 => ?_)
        refine W.needT 2 100000 h182 (by kernel_rfl) (fun h182 => ?_)
        refine W.needT 2 100000 h182 (by kernel_rfl) (fun h182 => ?_)
        cases h182; exact W.at 2 100000 [] [0, 3, 4] (by kernel_rfl) K182
      ·
        cases h182; exact W.at 2 100000 [] [3] (by kernel_rfl) K182

theorem cellarerref02_Clean_con {s_144 : List UInt8} {r : List UInt8 × Int} (h : cellarerref02_Clean s_144 = some r) : Con Go.Proofs.Tryd.prog 58 [AV.str s_144] [] (cellarerref02_Clean_res r) (cellarerref02_Clean_out r) := by
  refine W.con (by kernel_rfl) ?_
  unfold cellarerref02_Clean at h
  refine W.join (fun t => (Sum.elim (fun t_145 => r = ([], (1 : Int))) (fun t_146 => Walk Go.Proofs.Tryd.prog 58 (Cfg.mk Mode.run (seqTodo Go.Proofs.Tryd.prog 58 1) (St.mk [AV.str s_144, jj, jj, jj, jj, jj, jj, jj, jj, jj, jj, jj, jj, jj, jj, jj, jj, jj, jj, jj, jj, jj, jj, jj, jj, jj, jj, jj, jj, jj, jj, jj, jj, jj, jj, jj, jj, jj, jj, jj, jj, jj, jj, jj, jj, jj, jj, jj, jj, jj, jj, jj, jj, jj, jj, jj, jj, jj, jj, jj, jj, jj, jj, jj, jj, jj, jj, jj, jj, jj, jj, jj] [] (0 : Nat))) (cellarerref02_Clean_res r) (cellarerref02_Clean_out r))) t) h (fun t h => ?_) (fun t190 h190 K190 => ?_)
  ·
    rcases t with t_145 | t_146
    · replace h := W.inl (h)
      refine W.elimL (?_)
      exact (Option.some.inj h).symm
    · replace h := W.inr (h)
      refine W.elimR (?_)
      refine W.at 0 100000 [] [0, 4] (c' := (fun (s_195 : Int) => (Cfg.mk Mode.run (headTodo Go.Proofs.Tryd.prog 58 0) (St.mk [AV.str s_144, jj, jj, jj, AV.int IntKind.i64 s_195, jj, jj, jj, jj, jj, jj, jj, jj, jj, jj, jj, jj, jj, jj, jj, jj, jj, jj, jj, jj, jj, jj, jj, jj, jj, jj, jj, jj, jj, jj, jj, jj, jj, jj, jj, jj, jj, jj, jj, jj, jj, jj, jj, jj, jj, jj, jj, jj, jj, jj, jj, jj, jj, jj, jj, jj, jj, jj, jj, jj, jj, jj, jj, jj, jj, jj, jj] [] (0 : Nat)))) ((0 : Int))) (by kernel_rfl) ?_
      refine W.loop (fun (s_195 : Int) => (Cfg.mk Mode.run (headTodo Go.Proofs.Tryd.prog 58 0) (St.mk [AV.str s_144, jj, jj, jj, AV.int IntKind.i64 s_195, jj, jj, jj, jj, jj, jj, jj, jj, jj, jj, jj, jj, jj, jj, jj, jj, jj, jj, jj, jj, jj, jj, jj, jj, jj, jj, jj, jj, jj, jj, jj, jj, jj, jj, jj, jj, jj, jj, jj, jj, jj, jj, jj, jj, jj, jj, jj, jj, jj, jj, jj, jj, jj, jj, jj, jj, jj, jj, jj, jj, jj, jj, jj, jj, jj, jj, jj] [] (0 : Nat)))) (fun t => (Sum.elim (fun t_149 => r = ([], (1 : Int))) (fun t_150 => Walk Go.Proofs.Tryd.prog 58 (Cfg.mk Mode.run ((headTodo Go.Proofs.Tryd.prog 58 0).drop 3) (St.mk [AV.str s_144, jj, jj, jj, jj, jj, jj, jj, jj, jj, jj, jj, jj, jj, jj, jj, jj, jj, jj, jj, jj, jj, jj, jj, jj, jj, jj, jj, jj, jj, jj, jj, jj, jj, jj, jj, jj, jj, jj, jj, jj, jj, jj, jj, jj, jj, jj, jj, jj, jj, jj, jj, jj, jj, jj, jj, jj, jj, jj, jj, jj, jj, jj, jj, jj, jj, jj, jj, jj, jj, jj, jj] [] (0 : Nat))) (cellarerref02_Clean_res r) (cellarerref02_Clean_out r))) t) h (fun t h => ?_) (fun s_195 x189 h189 K189 => ?_)
      ·
        rcases t with t_149 | t_150
        · replace h := W.inl (h)
          refine W.elimL (?_)
          exact (Option.some.inj h).symm
        · replace h := W.inr (h)
          refine W.elimR (?_)
          refine W.bind h fun a_167 ha_167 h => ?_
          refine W.call 0 100000 (by kernel_rfl) (cellarerref02_Parts_con ha_167) (by kernel_rfl) ?_
          refine W.at 0 100000 [Co.own 6 (Ty.str)] [5, 6, 7] (c' := (fun (s_196 : Int × List (List UInt8)) => (Cfg.mk Mode.run (headTodo Go.Proofs.Tryd.prog 58 1) (St.mk [jj, jj, jj, jj, jj, AV.view (0 : Nat) (0 : Nat) Option.none, AV.view (1 : Nat) (0 : Nat) Option.none, AV.int IntKind.i64 (Prod.fst s_196), jj, jj, jj, jj, jj, jj, jj, jj, jj, jj, jj, jj, jj, jj, jj, jj, jj, jj, jj, jj, jj, jj, jj, jj, jj, jj, jj, jj, jj, jj, jj, jj, jj, jj, jj, jj, jj, jj, jj, jj, jj, jj, jj, jj, jj, jj, jj, jj, jj, jj, jj, jj, jj, jj, jj, jj, jj, jj, jj, jj, jj, jj, jj, jj] [AO.row Ty.str a_167, AO.row Ty.str (Prod.snd s_196)] (0 : Nat)))) ((0 : Int), [])) (by kernel_rfl) ?_
          refine W.loop (fun (s_196 : Int × List (List UInt8)) => (Cfg.mk Mode.run (headTodo Go.Proofs.Tryd.prog 58 1) (St.mk [jj, jj, jj, jj, jj, AV.view (0 : Nat) (0 : Nat) Option.none, AV.view (1 : Nat) (0 : Nat) Option.none, AV.int IntKind.i64 (Prod.fst s_196), jj, jj, jj, jj, jj, jj, jj, jj, jj, jj, jj, jj, jj, jj, jj, jj, jj, jj, jj, jj, jj, jj, jj, jj, jj, jj, jj, jj, jj, jj, jj, jj, jj, jj, jj, jj, jj, jj, jj, jj, jj, jj, jj, jj, jj, jj, jj, jj, jj, jj, jj, jj, jj, jj, jj, jj, jj, jj, jj, jj, jj, jj, jj, jj] [AO.row Ty.str a_167, AO.row Ty.str (Prod.snd s_196)] (0 : Nat)))) (fun t_174 => Walk Go.Proofs.Tryd.prog 58 (Cfg.mk Mode.run ((headTodo Go.Proofs.Tryd.prog 58 1).drop 3) (St.mk [jj, jj, jj, jj, jj, jj, AV.view (0 : Nat) (0 : Nat) Option.none, jj, jj, jj, jj, jj, jj, jj, jj, jj, jj, jj, jj, jj, jj, jj, jj, jj, jj, jj, jj, jj, jj, jj, jj, jj, jj, jj, jj, jj, jj, jj, jj, jj, jj, jj, jj, jj, jj, jj, jj, jj, jj, jj, jj, jj, jj, jj, jj, jj, jj, jj, jj, jj, jj, jj, jj, jj, jj, jj, jj, jj, jj, jj, jj, jj] [AO.row Ty.str t_174] (0 : Nat))) (cellarerref02_Clean_res r) (cellarerref02_Clean_out r)) h (fun t_174 h => ?_) (fun s_196 x188 h188 K188 => ?_)
          ·
            refine W.bind h fun a_186 ha_186 h => ?_
            refine W.call 0 100000 (by kernel_rfl) (cellarerref02_Joined_con ha_186) (by kernel_rfl) ?_
            refine W.cond 0 100000 h (by kernel_rfl) (fun h => ?_) (fun h => ?_)
            ·
              exact W.retT 0 100000 h (by kernel_rfl)
            ·
              exact W.retT 0 100000 h (by kernel_rfl)
          · unfold cellarerref02_Clean_b1 at h188
            refine W.cond 2 100000 h188 (by kernel_rfl) (fun h188 => ?_) (fun h188 => ?_)
            ·
              refine W.needT 2 100000 h188 (by kernel_rfl) (fun h188 => ?_)
              refine W.needT 2 100000 h188 (by kernel_rfl) (fun h188 => ?_)
              refine W.cond 2 100000 h188 (by kernel_rfl) (fun h188 => ?_) (fun h188 => ?_)
              ·
                refine W.cond 2 100000 h188 (by kernel_rfl) (fun h188 => ?_) (fun h188 => ?_)
                ·
                  refine W.needT 2 100000 h188 (by kernel_rfl) (fun h188 => ?_)
                  cases h188; exact W.at 2 100000 [Co.own 6 (Ty.str)] [5, 6, 7] (by kernel_rfl) K188
                ·
                  cases h188; exact W.at 2 100000 [Co.own 6 (Ty.str)] [5, 6, 7] (by kernel_rfl) K188
              ·
                refine W.needT 2 100000 h188 (by kernel_rfl) (fun h188 => ?_)
                refine W.needT 2 100000 h188 (by kernel_rfl) (fun h188 => ?_)
                refine W.cond 2 100000 h188 (by kernel_rfl) (fun h188 => ?_) (fun h188 => ?_)
                ·
                  refine W.needT 2 100000 h188 (by kernel_rfl) (fun h188 => ?_)
                  refine W.needT 2 100000 h188 (by kernel_rfl) (fun h188 => ?_)
                  refine W.needT 2 100000 h188 (by kernel_rfl) (fun h188 => ?_)
                  cases h188; exact W.at 2 100000 [Co.own 6 (Ty.str)] [5, 6, 7] (by kernel_rfl) K188
                ·
                  cases h188; exact W.at 2 100000 [Co.own 6 (Ty.str)] [5, 6, 7] (by kernel_rfl) K188
            ·
              cases h188; exact W.at 2 100000 [] [6] (by kernel_rfl) K188
      · unfold cellarerref02_Clean_b0 at h189
        refine W.cond 2 100000 h189 (by kernel_rfl) (fun h189 => ?_) (fun h189 => ?_)
        ·
          refine W.needT 2 100000 h189 (by kernel_rfl) (fun h189 => ?_)
          refine W.cond 2 100000 h189 (by kernel_rfl) (fun h189 => ?_) (fun h189 => ?_)
          ·
            refine W.yes 2 100000 (by kernel_rfl) ?_
            refine W.yes 2 100000 (by kernel_rfl) ?_
            refine W.yes 2 100000 (by kernel_rfl) ?_
            refine W.yes 2 100000 (by kernel_rfl) ?_
            refine W.yes 2 100000 (by kernel_rfl) ?_
            cases h189; exact W.retK 2 100000 K189 (by kernel_rfl)
          ·
            refine W.no 2 100000 (by kernel_rfl) ?_
            refine W.no 2 100000 (by kernel_rfl) ?_
            refine W.needT 2 100000 h189 (by kernel_rfl) (fun h189 => ?_)
            refine W.no 2 100000 (by kernel_rfl) ?_
            refine W.no 2 100000 (by kernel_rfl) ?_
            refine W.cond 2 100000 h189 (by kernel_rfl) (fun h189 => ?_) (fun h189 => ?_)
            ·
              cases h189; exact W.retK 2 100000 K189 (by kernel_rfl)
            ·
              cases h189; exact W.at 2 100000 [] [0, 4] (by kernel_rfl) K189
        ·
          cases h189; exact W.at 2 100000 [] [0] (by kernel_rfl) K189
  · refine W.next 0 6 (by kernel_rfl) ?_
    refine W.cond 1 100000 h190 (by kernel_rfl) (fun h190 => ?_) (fun h190 => ?_)
    ·
      refine W.yes 1 100000 (by kernel_rfl) ?_
      refine W.yes 1 100000 (by kernel_rfl) ?_
      refine W.yes 1 100000 (by kernel_rfl) ?_
      refine W.yes 1 100000 (by kernel_rfl) ?_
      cases h190; exact W.retK 1 100000 K190 (by kernel_rfl)
    ·
      refine W.no 1 100000 (by kernel_rfl) ?_
      refine W.needT 1 100000 h190 (by kernel_rfl) (fun h190 => ?_)
      refine W.no 1 100000 (by kernel_rfl) ?_
      refine W.no 1 100000 (by kernel_rfl) ?_
      refine W.cond 1 100000 h190 (by kernel_rfl) (fun h190 => ?_) (fun h190 => ?_)
      ·
        cases h190; exact W.retK 1 100000 K190 (by kernel_rfl)
      ·
        cases h190; exact W.at 1 100000 [] [0] (by kernel_rfl) K190

theorem cellarerref02_Right_con {s_143 : List UInt8} {r : Bool} (h : cellarerref02_Right s_143 = some r) : Con Go.Proofs.Tryd.prog 37 [AV.str s_143] [] (cellarerref02_Right_res r) (cellarerref02_Right_out r) := by
  refine W.con (by kernel_rfl) ?_
  unfold cellarerref02_Right at h
  refine W.bind h fun a_197 ha_197 h => ?_
  refine W.call 0 100000 (by kernel_rfl) (cellarerref02_Clean_con ha_197) (by kernel_rfl) ?_
  refine W.cond 0 100000 h (by kernel_rfl) (fun h => ?_) (fun h => ?_)
  ·
    refine W.yes 0 100000 (by kernel_rfl) ?_
    refine W.yes 0 100000 (by kernel_rfl) ?_
    refine W.yes 0 100000 (by kernel_rfl) ?_
    exact W.retT 0 100000 h (by kernel_rfl)
  ·
    refine W.no 0 100000 (by kernel_rfl) ?_
    refine W.no 0 100000 (by kernel_rfl) ?_
    refine W.no 0 100000 (by kernel_rfl) ?_
    exact W.retT 0 100000 h (by kernel_rfl)

theorem cellarerref02_Name_con {s_201 : List UInt8} {r : Bool} (h : cellarerref02_Name s_201 = some r) : Con Go.Proofs.Tryd.prog 38 [AV.str s_201] [] (cellarerref02_Name_res r) (cellarerref02_Name_out r) := by
  refine W.con (by kernel_rfl) ?_
  unfold cellarerref02_Name at h
  refine W.at 0 100000 [] [0, 3] (c' := (fun (s_219 : Int) => (Cfg.mk Mode.run (headTodo Go.Proofs.Tryd.prog 38 0) (St.mk [AV.str s_201, jj, jj, AV.int IntKind.i64 s_219, jj, jj, jj, jj, jj, jj, jj, jj, jj, jj, jj, jj, jj, jj, jj, jj, jj, jj, jj, jj, jj, jj, jj, jj, jj, jj, jj, jj, jj, jj, jj, jj, jj, jj, jj, jj, jj, jj, jj, jj, jj, jj, jj, jj, jj, jj, jj, jj, jj, jj, jj, jj, jj, jj, jj, jj, jj, jj, jj, jj] [] (0 : Nat)))) ((0 : Int))) (by kernel_rfl) ?_
  refine W.loop (fun (s_219 : Int) => (Cfg.mk Mode.run (headTodo Go.Proofs.Tryd.prog 38 0) (St.mk [AV.str s_201, jj, jj, AV.int IntKind.i64 s_219, jj, jj, jj, jj, jj, jj, jj, jj, jj, jj, jj, jj, jj, jj, jj, jj, jj, jj, jj, jj, jj, jj, jj, jj, jj, jj, jj, jj, jj, jj, jj, jj, jj, jj, jj, jj, jj, jj, jj, jj, jj, jj, jj, jj, jj, jj, jj, jj, jj, jj, jj, jj, jj, jj, jj, jj, jj, jj, jj, jj] [] (0 : Nat)))) (fun t => (Sum.elim (fun t_213 => r = (Bool.false)) (fun t_214 => Walk Go.Proofs.Tryd.prog 38 (Cfg.mk Mode.run ((headTodo Go.Proofs.Tryd.prog 38 0).drop 3) (St.mk [AV.str s_201, jj, jj, jj, jj, jj, jj, jj, jj, jj, jj, jj, jj, jj, jj, jj, jj, jj, jj, jj, jj, jj, jj, jj, jj, jj, jj, jj, jj, jj, jj, jj, jj, jj, jj, jj, jj, jj, jj, jj, jj, jj, jj, jj, jj, jj, jj, jj, jj, jj, jj, jj, jj, jj, jj, jj, jj, jj, jj, jj, jj, jj, jj, jj] [] (0 : Nat))) (cellarerref02_Name_res r) (cellarerref02_Name_out r))) t) h (fun t h => ?_) (fun s_219 x216 h216 K216 => ?_)
  ·
    rcases t with t_213 | t_214
    · replace h := W.inl (h)
      refine W.elimL (?_)
      exact (Option.some.inj h).symm
    · replace h := W.inr (h)
      refine W.elimR (?_)
      refine W.cond 0 100000 h (by kernel_rfl) (fun h => ?_) (fun h => ?_)
      ·
        refine W.yes 0 100000 (by kernel_rfl) ?_
        refine W.yes 0 100000 (by kernel_rfl) ?_
        refine W.yes 0 100000 (by kernel_rfl) ?_
        exact W.retT 0 100000 h (by kernel_rfl)
      ·
        refine W.no 0 100000 (by kernel_rfl) ?_
        refine W.no 0 100000 (by kernel_rfl) ?_
        refine W.no 0 100000 (by kernel_rfl) ?_
        exact W.retT 0 100000 h (by kernel_rfl)
  · unfold cellarerref02_Name_b0 at h216
    refine W.cond 2 100000 h216 (by kernel_rfl) (fun h216 => ?_) (fun h216 => ?_)
    ·
      refine W.needT 2 100000 h216 (by kernel_rfl) (fun h216 => ?_)
      refine W.join (fun t_205 => Walk Go.Proofs.Tryd.prog 38 (Cfg.mk Mode.run (seqTodo Go.Proofs.Tryd.prog 38 7) (St.mk [AV.str s_201, jj, jj, AV.int IntKind.i64 s_219, AV.int IntKind.u8 (↑(UInt8.toNat (List.getD s_201 (Int.toNat s_219) (0 : UInt8))) : Int), AV.bool t_205, jj, jj, jj, jj, jj, jj, jj, jj, jj, jj, jj, jj, jj, jj, jj, jj, jj, jj, jj, jj, jj, jj, jj, jj, jj, jj, jj, jj, jj, jj, jj, jj, jj, jj, jj, jj, jj, jj, jj, jj, jj, jj, jj, jj, jj, jj, jj, jj, jj, jj, jj, jj, jj, jj, jj, jj, jj, jj] [] (0 : Nat))) (cellarerref02_Name_res r) (cellarerref02_Name_out r)) h216 (fun t_205 h216 => ?_) (fun t213 h213 K213 => ?_)
      ·
        refine W.join (fun t_207 => Walk Go.Proofs.Tryd.prog 38 (Cfg.mk Mode.run (seqTodo Go.Proofs.Tryd.prog 38 8) (St.mk [AV.str s_201, jj, jj, AV.int IntKind.i64 s_219, AV.int IntKind.u8 (↑(UInt8.toNat (List.getD s_201 (Int.toNat s_219) (0 : UInt8))) : Int), AV.bool t_205, AV.bool t_207, jj, jj, jj, jj, jj, jj, jj, jj, jj, jj, jj, jj, jj, jj, jj, jj, jj, jj, jj, jj, jj, jj, jj, jj, jj, jj, jj, jj, jj, jj, jj, jj, jj, jj, jj, jj, jj, jj, jj, jj, jj, jj, jj, jj, jj, jj, jj, jj, jj, jj, jj, jj, jj, jj, jj, jj, jj] [] (0 : Nat))) (cellarerref02_Name_res r) (cellarerref02_Name_out r)) h216 (fun t_207 h216 => ?_) (fun t212 h212 K212 => ?_)
        ·
          refine W.join (fun t_209 => Walk Go.Proofs.Tryd.prog 38 (Cfg.mk Mode.run (seqTodo Go.Proofs.Tryd.prog 38 9) (St.mk [AV.str s_201, jj, jj, AV.int IntKind.i64 s_219, jj, AV.bool t_205, AV.bool t_207, AV.bool t_209, jj, jj, jj, jj, jj, jj, jj, jj, jj, jj, jj, jj, jj, jj, jj, jj, jj, jj, jj, jj, jj, jj, jj, jj, jj, jj, jj, jj, jj, jj, jj, jj, jj, jj, jj, jj, jj, jj, jj, jj, jj, jj, jj, jj, jj, jj, jj, jj, jj, jj, jj, jj, jj, jj, jj, jj] [] (0 : Nat))) (cellarerref02_Name_res r) (cellarerref02_Name_out r)) h216 (fun t_209 h216 => ?_) (fun t211 h211 K211 => ?_)
          ·
            refine W.cond 2 100000 h216 (by kernel_rfl) (fun h216 => ?_) (fun h216 => ?_)
            ·
              refine W.yes 2 100000 (by kernel_rfl) ?_
              refine W.yes 2 100000 (by kernel_rfl) ?_
              refine W.cond 2 100000 h216 (by kernel_rfl) (fun h216 => ?_) (fun h216 => ?_)
              ·
                refine W.yes 2 100000 (by kernel_rfl) ?_
                refine W.yes 2 100000 (by kernel_rfl) ?_
                refine W.cond 2 100000 h216 (by kernel_rfl) (fun h216 => ?_) (fun h216 => ?_)
                ·
                  refine W.yes 2 100000 (by kernel_rfl) ?_
                  refine W.yes 2 100000 (by kernel_rfl) ?_
                  refine W.yes 2 100000 (by kernel_rfl) ?_
                  refine W.yes 2 100000 (by kernel_rfl) ?_
                  cases h216; exact W.retK 2 100000 K216 (by kernel_rfl)
                ·
                  refine W.no 2 100000 (by kernel_rfl) ?_
                  refine W.cond 2 100000 h216 (by kernel_rfl) (fun h216 => ?_) (fun h216 => ?_)
                  ·
                    refine W.yes 2 100000 (by kernel_rfl) ?_
                    refine W.no 2 100000 (by kernel_rfl) ?_
                    refine W.yes 2 100000 (by kernel_rfl) ?_
                    refine W.no 2 100000 (by kernel_rfl) ?_
                    refine W.cond 2 100000 h216 (by kernel_rfl) (fun h216 => ?_) (fun h216 => ?_)
                    ·
                      cases h216; exact W.retK 2 100000 K216 (by kernel_rfl)
                    ·
                      cases h216; exact W.at 2 100000 [] [0, 3] (by kernel_rfl) K216
                  ·
                    refine W.no 2 100000 (by kernel_rfl) ?_
                    refine W.no 2 100000 (by kernel_rfl) ?_
                    refine W.no 2 100000 (by kernel_rfl) ?_
                    refine W.no 2 100000 (by kernel_rfl) ?_
                    refine W.no 2 100000 (by kernel_rfl) ?_
                    cases h216; exact W.at 2 100000 [] [0, 3] (by kernel_rfl) K216
              ·
                refine W.no 2 100000 (by kernel_rfl) ?_
                refine W.no 2 100000 (by kernel_rfl) ?_
                refine W.no 2 100000 (by kernel_rfl) ?_
                refine W.no 2 100000 (by kernel_rfl) ?_
                refine W.cond 2 100000 h216 (by kernel_rfl) (fun h216 => ?_) (fun h216 => ?_)
                ·
                  refine W.yes 2 100000 (by kernel_rfl) ?_
                  refine W.no 2 100000 (by kernel_rfl) ?_
                  refine W.yes 2 100000 (by kernel_rfl) ?_
                  refine W.no 2 100000 (by kernel_rfl) ?_
                  refine W.cond 2 100000 h216 (by kernel_rfl) (fun h216 => ?_) (fun h216 => ?_)
                  ·
                    cases h216; exact W.retK 2 100000 K216 (by kernel_rfl)
                  ·
                    cases h216; exact W.at 2 100000 [] [0, 3] (by kernel_rfl) K216
                ·
                  refine W.no 2 100000 (by kernel_rfl) ?_
                  refine W.no 2 100000 (by kernel_rfl) ?_
                  refine W.no 2 100000 (by kernel_rfl) ?_
                  refine W.no 2 100000 (by kernel_rfl) ?_
                  refine W.no 2 100000 (by kernel_rfl) ?_
                  cases h216; exact W.at 2 100000 [] [0, 3] (by kernel_rfl) K216
            ·
              refine W.no 2 100000 (by kernel_rfl) ?_
              refine W.no 2 100000 (by kernel_rfl) ?_
              refine W.no 2 100000 (by kernel_rfl) ?_
              refine W.no 2 100000 (by kernel_rfl) ?_
              refine W.no 2 100000 (by kernel_rfl) ?_
              refine W.no 2 100000 (by kernel_rfl) ?_
              refine W.no 2 100000 (by kernel_rfl) ?_
              refine W.cond 2 100000 h216 (by kernel_rfl) (fun h216 => ?_) (fun h216 => ?_)
              ·
                refine W.yes 2 100000 (by kernel_rfl) ?_
                refine W.no 2 100000 (by kernel_rfl) ?_
                refine W.yes 2 100000 (by kernel_rfl) ?_
                refine W.no 2 100000 (by kernel_rfl) ?_
                refine W.cond 2 100000 h216 (by kernel_rfl) (fun h216 => ?_) (fun h216 => ?_)
                ·
                  cases h216; exact W.retK 2 100000 K216 (by kernel_rfl)
                ·
                  cases h216; exact W.at 2 100000 [] [0, 3] (by kernel_rfl) K216
              ·
                refine W.no 2 100000 (by kernel_rfl) ?_
                refine W.no 2 100000 (by kernel_rfl) ?_
                refine W.no 2 100000 (by kernel_rfl) ?_
                refine W.no 2 100000 (by kernel_rfl) ?_
                refine W.no 2 100000 (by kernel_rfl) ?_
                cases h216; exact W.at 2 100000 [] [0, 3] (by kernel_rfl) K216
          · refine W.next 2 1 (by kernel_rfl) ?_
            refine W.cond 6 100000 h211 (by kernel_rfl) (fun h211 => ?_) (fun h211 => ?_)
            ·
              refine W.yes 6 100000 (by kernel_rfl) ?_
              refine W.yes 6 100000 (by kernel_rfl) ?_
              refine W.yes 6 100000 (by kernel_rfl) ?_
              refine W.yes 6 100000 (by kernel_rfl) ?_
              refine W.yes 6 100000 (by kernel_rfl) ?_
              cases h211; exact W.at 6 100000 [] [0, 3, 5, 6, 7] (by kernel_rfl) K211
            ·
              refine W.no 6 100000 (by kernel_rfl) ?_
              refine W.no 6 100000 (by kernel_rfl) ?_
              refine W.cond 6 100000 h211 (by kernel_rfl) (fun h211 => ?_) (fun h211 => ?_)
              ·
                refine W.yes 6 100000 (by kernel_rfl) ?_
                refine W.yes 6 100000 (by kernel_rfl) ?_
                cases h211; exact W.at 6 100000 [] [0, 3, 5, 6, 7] (by kernel_rfl) K211
              ·
                refine W.no 6 100000 (by kernel_rfl) ?_
                refine W.no 6 100000 (by kernel_rfl) ?_
                cases h211; exact W.at 6 100000 [] [0, 3, 5, 6, 7] (by kernel_rfl) K211
        · refine W.next 2 1 (by kernel_rfl) ?_
          refine W.cond 6 100000 h212 (by kernel_rfl) (fun h212 => ?_) (fun h212 => ?_)
          ·
            refine W.yes 6 100000 (by kernel_rfl) ?_
            refine W.yes 6 100000 (by kernel_rfl) ?_
            cases h212; exact W.at 6 100000 [] [0, 3, 4, 5, 6] (by kernel_rfl) K212
          ·
            refine W.no 6 100000 (by kernel_rfl) ?_
            refine W.no 6 100000 (by kernel_rfl) ?_
            cases h212; exact W.at 6 100000 [] [0, 3, 4, 5, 6] (by kernel_rfl) K212
      · refine W.next 2 3 (by kernel_rfl) ?_
        refine W.cond 6 100000 h213 (by kernel_rfl) (fun h213 => ?_) (fun h213 => ?_)
        ·
          refine W.yes 6 100000 (by kernel_rfl) ?_
          refine W.yes 6 100000 (by kernel_rfl) ?_
          cases h213; exact W.at 6 100000 [] [0, 3, 4, 5] (by kernel_rfl) K213
        ·
          refine W.no 6 100000 (by kernel_rfl) ?_
          refine W.no 6 100000 (by kernel_rfl) ?_
          cases h213; exact W.at 6 100000 [] [0, 3, 4, 5] (by kernel_rfl) K213
    ·
      cases h216; exact W.at 2 100000 [] [0] (by kernel_rfl) K216

theorem cellarerref08_Rising_con {l_221 : List (List UInt8)} {r : Bool} (h : cellarerref08_Rising l_221 = some r) : Con Go.Proofs.Tryd.prog 39 [AV.list Ty.str l_221 Bool.false] [] (cellarerref08_Rising_res r) (cellarerref08_Rising_out r) := by
  refine W.con (by kernel_rfl) ?_
  unfold cellarerref08_Rising at h
  refine W.at 0 100000 [] [0, 3] (c' := (fun (s_230 : Int) => (Cfg.mk Mode.run (headTodo Go.Proofs.Tryd.prog 39 0) (St.mk [AV.list Ty.str l_221 Bool.false, jj, jj, AV.int IntKind.i64 s_230, jj, jj, jj, jj, jj, jj, jj, jj, jj, jj, jj, jj, jj, jj, jj, jj, jj, jj, jj] [] (0 : Nat)))) ((1 : Int))) (by kernel_rfl) ?_
  refine W.loop (fun (s_230 : Int) => (Cfg.mk Mode.run (headTodo Go.Proofs.Tryd.prog 39 0) (St.mk [AV.list Ty.str l_221 Bool.false, jj, jj, AV.int IntKind.i64 s_230, jj, jj, jj, jj, jj, jj, jj, jj, jj, jj, jj, jj, jj, jj, jj, jj, jj, jj, jj] [] (0 : Nat)))) (fun t => (Sum.elim (fun t_224 => r = (Bool.false)) (fun t_225 => Walk Go.Proofs.Tryd.prog 39 (Cfg.mk Mode.run ((headTodo Go.Proofs.Tryd.prog 39 0).drop 3) (St.mk [AV.list Ty.str l_221 Bool.false, jj, jj, jj, jj, jj, jj, jj, jj, jj, jj, jj, jj, jj, jj, jj, jj, jj, jj, jj, jj, jj, jj] [] (0 : Nat))) (cellarerref08_Rising_res r) (cellarerref08_Rising_out r))) t) h (fun t h => ?_) (fun s_230 x227 h227 K227 => ?_)
  ·
    rcases t with t_224 | t_225
    · replace h := W.inl (h)
      refine W.elimL (?_)
      exact (Option.some.inj h).symm
    · replace h := W.inr (h)
      refine W.elimR (?_)
      exact W.retT 0 100000 h (by kernel_rfl)
  · unfold cellarerref08_Rising_b0 at h227
    refine W.cond 2 100000 h227 (by kernel_rfl) (fun h227 => ?_) (fun h227 => ?_)
    ·
      refine W.needT 2 100000 h227 (by kernel_rfl) (fun h227 => ?_)
      refine W.needT 2 100000 h227 (by kernel_rfl) (fun h227 => ?_)
      refine W.cond 2 100000 h227 (by kernel_rfl) (fun h227 => ?_) (fun h227 => ?_)
      ·
        cases h227; exact W.retK 2 100000 K227 (by kernel_rfl)
      ·
        cases h227; exact W.at 2 100000 [] [0, 3] (by kernel_rfl) K227
    ·
      cases h227; exact W.at 2 100000 [] [0] (by kernel_rfl) K227

theorem lists_Right_con {x_232 : List UInt8} {x_233 : List (List UInt8)} {r : Bool} (h : lists_Right x_232 x_233 = some r) : Con Go.Proofs.Tryd.prog 14 [AV.agg [AV.str x_232, AV.list Ty.str x_233 Bool.false]] [] (lists_Right_res r) (lists_Right_out r) := by
  refine W.con (by kernel_rfl) ?_
  unfold lists_Right at h
  refine W.at 0 100000 [] [1, 6, 7, 8] (c' := (fun (s_247 : Int) => (Cfg.mk Mode.run (headTodo Go.Proofs.Tryd.prog 14 0) (St.mk [jj, AV.ptr (0 : Nat) (0 : Nat), jj, jj, jj, jj, AV.list Ty.str x_233 Bool.false, AV.int IntKind.i64 (↑(List.length x_233) : Int), AV.int IntKind.i64 s_247, jj, jj, jj, jj, jj, jj, jj, jj, jj, jj, jj, jj, jj, jj, jj, jj, jj, jj, jj, jj, jj, jj, jj, jj, jj, jj, jj, jj, jj, jj, jj] [AO.box [AV.str x_232, AV.list Ty.str x_233 Bool.false]] (0 : Nat)))) ((0 : Int))) (by kernel_rfl) ?_
  refine W.loop (fun (s_247 : Int) => (Cfg.mk Mode.run (headTodo Go.Proofs.Tryd.prog 14 0) (St.mk [jj, AV.ptr (0 : Nat) (0 : Nat), jj, jj, jj, jj, AV.list Ty.str x_233 Bool.false, AV.int IntKind.i64 (↑(List.length x_233) : Int), AV.int IntKind.i64 s_247, jj, jj, jj, jj, jj, jj, jj, jj, jj, jj, jj, jj, jj, jj, jj, jj, jj, jj, jj, jj, jj, jj, jj, jj, jj, jj, jj, jj, jj, jj, jj] [AO.box [AV.str x_232, AV.list Ty.str x_233 Bool.false]] (0 : Nat)))) (fun t => (Sum.elim (fun t_240 => r = (Bool.false)) (fun t_241 => Walk Go.Proofs.Tryd.prog 14 (Cfg.mk Mode.run ((headTodo Go.Proofs.Tryd.prog 14 0).drop 3) (St.mk [jj, AV.ptr (0 : Nat) (0 : Nat), jj, jj, jj, jj, jj, jj, jj, jj, jj, jj, jj, jj, jj, jj, jj, jj, jj, jj, jj, jj, jj, jj, jj, jj, jj, jj, jj, jj, jj, jj, jj, jj, jj, jj, jj, jj, jj, jj] [AO.box [AV.str x_232, AV.list Ty.str x_233 Bool.false]] (0 : Nat))) (lists_Right_res r) (lists_Right_out r))) t) h (fun t h => ?_) (fun s_247 x244 h244 K244 => ?_)
  ·
    rcases t with t_240 | t_241
    · replace h := W.inl (h)
      refine W.elimL (?_)
      exact (Option.some.inj h).symm
    · replace h := W.inr (h)
      refine W.elimR (?_)
      refine W.bind h fun a_242 ha_242 h => ?_
      refine W.call 0 100000 (by kernel_rfl) (path_Name_con ha_242) (by kernel_rfl) ?_
      refine W.cond 0 100000 h (by kernel_rfl) (fun h => ?_) (fun h => ?_)
      ·
        refine W.yes 0 100000 (by kernel_rfl) ?_
        refine W.yes 0 100000 (by kernel_rfl) ?_
        refine W.yes 0 100000 (by kernel_rfl) ?_
        refine W.yes 0 100000 (by kernel_rfl) ?_
        exact W.retT 0 100000 h (by kernel_rfl)
      ·
        refine W.no 0 100000 (by kernel_rfl) ?_
        refine W.no 0 100000 (by kernel_rfl) ?_
        refine W.no 0 100000 (by kernel_rfl) ?_
        refine W.no 0 100000 (by kernel_rfl) ?_
        exact W.retT 0 100000 h (by kernel_rfl)
  · unfold lists_Right_b0 at h244
    refine W.cond 2 100000 h244 (by kernel_rfl) (fun h244 => ?_) (fun h244 => ?_)
    ·
      refine W.needT 2 100000 h244 (by kernel_rfl) (fun h244 => ?_)
      refine W.bind h244 fun a_239 ha_239 h244 => ?_
      refine W.call 2 100000 (by kernel_rfl) (path_Right_con ha_239) (by kernel_rfl) ?_
      refine W.cond 2 100000 h244 (by kernel_rfl) (fun h244 => ?_) (fun h244 => ?_)
      ·
        refine W.yes 2 100000 (by kernel_rfl) ?_
        refine W.yes 2 100000 (by kernel_rfl) ?_
        refine W.yes 2 100000 (by kernel_rfl) ?_
        refine W.yes 2 100000 (by kernel_rfl) ?_
        refine W.yes 2 100000 (by kernel_rfl) ?_
        cases h244; exact W.retK 2 100000 K244 (by kernel_rfl)
      ·
        refine W.no 2 100000 (by kernel_rfl) ?_
        refine W.no 2 100000 (by kernel_rfl) ?_
        refine W.cond 2 100000 h244 (by kernel_rfl) (fun h244 => ?_) (fun h244 => ?_)
        ·
          refine W.yes 2 100000 (by kernel_rfl) ?_
          refine W.yes 2 100000 (by kernel_rfl) ?_
          refine W.yes 2 100000 (by kernel_rfl) ?_
          refine W.yes 2 100000 (by kernel_rfl) ?_
          refine W.needT 2 100000 h244 (by kernel_rfl) (fun h244 => ?_)
          refine W.yes 2 100000 (by kernel_rfl) ?_
          refine W.yes 2 100000 (by kernel_rfl) ?_
          refine W.yes 2 100000 (by kernel_rfl) ?_
          refine W.no 2 100000 (by kernel_rfl) ?_
          refine W.yes 2 100000 (by kernel_rfl) ?_
          refine W.no 2 100000 (by kernel_rfl) ?_
          refine W.cond 2 100000 h244 (by kernel_rfl) (fun h244 => ?_) (fun h244 => ?_)
          ·
            cases h244; exact W.retK 2 100000 K244 (by kernel_rfl)
          ·
            cases h244; exact W.at 2 100000 [] [1, 6, 7, 8] (by kernel_rfl) K244
        ·
          refine W.no 2 100000 (by kernel_rfl) ?_
          refine W.no 2 100000 (by kernel_rfl) ?_
          refine W.no 2 100000 (by kernel_rfl) ?_
          refine W.no 2 100000 (by kernel_rfl) ?_
          refine W.no 2 100000 (by kernel_rfl) ?_
          refine W.no 2 100000 (by kernel_rfl) ?_
          refine W.no 2 100000 (by kernel_rfl) ?_
          refine W.no 2 100000 (by kernel_rfl) ?_
          refine W.no 2 100000 (by kernel_rfl) ?_
          refine W.no 2 100000 (by kernel_rfl) ?_
          refine W.no 2 100000 (by kernel_rfl) ?_
          cases h244; exact W.at 2 100000 [] [1, 6, 7, 8] (by kernel_rfl) K244
    ·
      cases h244; exact W.at 2 100000 [] [1] (by kernel_rfl) K244

theorem cellarerref13_Right_con {x_249 : List UInt8} {x_250 : List (List UInt8)} {r : Bool} (h : cellarerref13_Right x_249 x_250 = some r) : Con Go.Proofs.Tryd.prog 15 [AV.agg [AV.str x_249, AV.list Ty.str x_250 Bool.false]] [] (cellarerref13_Right_res r) (cellarerref13_Right_out r) := by
  refine W.con (by kernel_rfl) ?_
  unfold cellarerref13_Right at h
  refine W.at 0 100000 [] [1, 3] (c' := (fun (s_263 : Int) => (Cfg.mk Mode.run (headTodo Go.Proofs.Tryd.prog 15 0) (St.mk [jj, AV.ptr (0 : Nat) (0 : Nat), jj, AV.int IntKind.i64 s_263, jj, jj, jj, jj, jj, jj, jj, jj, jj, jj, jj, jj, jj, jj, jj, jj, jj, jj, jj, jj, jj, jj] [AO.box [AV.str x_249, AV.list Ty.str x_250 Bool.false]] (0 : Nat)))) ((0 : Int))) (by kernel_rfl) ?_
  refine W.loop (fun (s_263 : Int) => (Cfg.mk Mode.run (headTodo Go.Proofs.Tryd.prog 15 0) (St.mk [jj, AV.ptr (0 : Nat) (0 : Nat), jj, AV.int IntKind.i64 s_263, jj, jj, jj, jj, jj, jj, jj, jj, jj, jj, jj, jj, jj, jj, jj, jj, jj, jj, jj, jj, jj, jj] [AO.box [AV.str x_249, AV.list Ty.str x_250 Bool.false]] (0 : Nat)))) (fun t => (Sum.elim (fun t_255 => r = (Bool.false)) (fun t_256 => Walk Go.Proofs.Tryd.prog 15 (Cfg.mk Mode.run ((headTodo Go.Proofs.Tryd.prog 15 0).drop 3) (St.mk [jj, AV.ptr (0 : Nat) (0 : Nat), jj, jj, jj, jj, jj, jj, jj, jj, jj, jj, jj, jj, jj, jj, jj, jj, jj, jj, jj, jj, jj, jj, jj, jj] [AO.box [AV.str x_249, AV.list Ty.str x_250 Bool.false]] (0 : Nat))) (cellarerref13_Right_res r) (cellarerref13_Right_out r))) t) h (fun t h => ?_) (fun s_263 x260 h260 K260 => ?_)
  ·
    rcases t with t_255 | t_256
    · replace h := W.inl (h)
      refine W.elimL (?_)
      exact (Option.some.inj h).symm
    · replace h := W.inr (h)
      refine W.elimR (?_)
      refine W.bind h fun a_257 ha_257 h => ?_
      refine W.call 0 100000 (by kernel_rfl) (cellarerref02_Name_con ha_257) (by kernel_rfl) ?_
      refine W.cond 0 100000 h (by kernel_rfl) (fun h => ?_) (fun h => ?_)
      ·
        refine W.yes 0 100000 (by kernel_rfl) ?_
        refine W.yes 0 100000 (by kernel_rfl) ?_
        refine W.bind h fun a_258 ha_258 h => ?_
        refine W.call 0 100000 (by kernel_rfl) (cellarerref08_Rising_con ha_258) (by kernel_rfl) ?_
        refine W.yes 0 100000 (by kernel_rfl) ?_
        exact W.retT 0 100000 h (by kernel_rfl)
      ·
        refine W.no 0 100000 (by kernel_rfl) ?_
        refine W.no 0 100000 (by kernel_rfl) ?_
        refine W.no 0 100000 (by kernel_rfl) ?_
        exact W.retT 0 100000 h (by kernel_rfl)
  · unfold cellarerref13_Right_b0 at h260
    refine W.cond 2 100000 h260 (by kernel_rfl) (fun h260 => ?_) (fun h260 => ?_)
    ·
      refine W.needT 2 100000 h260 (by kernel_rfl) (fun h260 => ?_)
      refine W.bind h260 fun a_254 ha_254 h260 => ?_
      refine W.call 2 100000 (by kernel_rfl) (cellarerref02_Right_con ha_254) (by kernel_rfl) ?_
      refine W.cond 2 100000 h260 (by kernel_rfl) (fun h260 => ?_) (fun h260 => ?_)
      ·
        cases h260; exact W.retK 2 100000 K260 (by kernel_rfl)
      ·
        cases h260; exact W.at 2 100000 [] [1, 3] (by kernel_rfl) K260
    ·
      cases h260; exact W.at 2 100000 [] [1] (by kernel_rfl) K260

theorem lists_Check_con {l_265 : List (List UInt8 × List (List UInt8))} {r : Int} (h : lists_Check l_265 = some r) : Con Go.Proofs.Tryd.prog 16 [AV.list (Ty.prod Ty.str (Ty.list Ty.str)) l_265 Bool.false] [] (lists_Check_res r) (lists_Check_out r) := by
  refine W.con (by kernel_rfl) ?_
  unfold lists_Check at h
  refine W.cond 0 100000 h (by kernel_rfl) (fun h => ?_) (fun h => ?_)
  ·
    exact W.retT 0 100000 h (by kernel_rfl)
  ·
    refine W.at 0 100000 [] [0, 8, 9, 10] (c' := (fun (s_277 : Int) => (Cfg.mk Mode.run (headTodo Go.Proofs.Tryd.prog 16 0) (St.mk [AV.list (Ty.prod Ty.str (Ty.list Ty.str)) l_265 Bool.false, jj, jj, jj, jj, jj, jj, jj, AV.list (Ty.prod Ty.str (Ty.list Ty.str)) l_265 Bool.false, AV.int IntKind.i64 (↑(List.length l_265) : Int), AV.int IntKind.i64 s_277, jj, jj, jj, jj, jj, jj, jj, jj, jj, jj, jj, jj, jj, jj, jj, jj, jj, jj, jj, jj, jj, jj, jj] [] (0 : Nat)))) ((0 : Int))) (by kernel_rfl) ?_
    refine W.loop (fun (s_277 : Int) => (Cfg.mk Mode.run (headTodo Go.Proofs.Tryd.prog 16 0) (St.mk [AV.list (Ty.prod Ty.str (Ty.list Ty.str)) l_265 Bool.false, jj, jj, jj, jj, jj, jj, jj, AV.list (Ty.prod Ty.str (Ty.list Ty.str)) l_265 Bool.false, AV.int IntKind.i64 (↑(List.length l_265) : Int), AV.int IntKind.i64 s_277, jj, jj, jj, jj, jj, jj, jj, jj, jj, jj, jj, jj, jj, jj, jj, jj, jj, jj, jj, jj, jj, jj, jj] [] (0 : Nat)))) (fun t => (Sum.elim (fun t_271 => r = ((1 : Int))) (fun t_272 => Walk Go.Proofs.Tryd.prog 16 (Cfg.mk Mode.run ((headTodo Go.Proofs.Tryd.prog 16 0).drop 3) (St.mk [jj, jj, jj, jj, jj, jj, jj, jj, jj, jj, jj, jj, jj, jj, jj, jj, jj, jj, jj, jj, jj, jj, jj, jj, jj, jj, jj, jj, jj, jj, jj, jj, jj, jj] [] (0 : Nat))) (lists_Check_res r) (lists_Check_out r))) t) h (fun t h => ?_) (fun s_277 x274 h274 K274 => ?_)
    ·
      rcases t with t_271 | t_272
      · replace h := W.inl (h)
        refine W.elimL (?_)
        exact (Option.some.inj h).symm
      · replace h := W.inr (h)
        refine W.elimR (?_)
        exact W.retT 0 100000 h (by kernel_rfl)
    · unfold lists_Check_b0 at h274
      refine W.cond 2 100000 h274 (by kernel_rfl) (fun h274 => ?_) (fun h274 => ?_)
      ·
        refine W.needT 2 100000 h274 (by kernel_rfl) (fun h274 => ?_)
        refine W.bind h274 fun a_270 ha_270 h274 => ?_
        refine W.call 2 100000 (by kernel_rfl) (lists_Right_con ha_270) (by kernel_rfl) ?_
        refine W.cond 2 100000 h274 (by kernel_rfl) (fun h274 => ?_) (fun h274 => ?_)
        ·
          refine W.yes 2 100000 (by kernel_rfl) ?_
          refine W.yes 2 100000 (by kernel_rfl) ?_
          refine W.yes 2 100000 (by kernel_rfl) ?_
          refine W.yes 2 100000 (by kernel_rfl) ?_
          refine W.yes 2 100000 (by kernel_rfl) ?_
          cases h274; exact W.retK 2 100000 K274 (by kernel_rfl)
        ·
          refine W.no 2 100000 (by kernel_rfl) ?_
          refine W.no 2 100000 (by kernel_rfl) ?_
          refine W.cond 2 100000 h274 (by kernel_rfl) (fun h274 => ?_) (fun h274 => ?_)
          ·
            refine W.yes 2 100000 (by kernel_rfl) ?_
            refine W.yes 2 100000 (by kernel_rfl) ?_
            refine W.yes 2 100000 (by kernel_rfl) ?_
            refine W.needT 2 100000 h274 (by kernel_rfl) (fun h274 => ?_)
            refine W.yes 2 100000 (by kernel_rfl) ?_
            refine W.yes 2 100000 (by kernel_rfl) ?_
            refine W.yes 2 100000 (by kernel_rfl) ?_
            refine W.yes 2 100000 (by kernel_rfl) ?_
            refine W.yes 2 100000 (by kernel_rfl) ?_
            refine W.no 2 100000 (by kernel_rfl) ?_
            refine W.yes 2 100000 (by kernel_rfl) ?_
            refine W.no 2 100000 (by kernel_rfl) ?_
            refine W.cond 2 100000 h274 (by kernel_rfl) (fun h274 => ?_) (fun h274 => ?_)
            ·
              cases h274; exact W.retK 2 100000 K274 (by kernel_rfl)
            ·
              cases h274; exact W.at 2 100000 [] [0, 8, 9, 10] (by kernel_rfl) K274
          ·
            refine W.no 2 100000 (by kernel_rfl) ?_
            refine W.no 2 100000 (by kernel_rfl) ?_
            refine W.no 2 100000 (by kernel_rfl) ?_
            refine W.no 2 100000 (by kernel_rfl) ?_
            refine W.no 2 100000 (by kernel_rfl) ?_
            refine W.no 2 100000 (by kernel_rfl) ?_
            refine W.no 2 100000 (by kernel_rfl) ?_
            refine W.no 2 100000 (by kernel_rfl) ?_
            refine W.no 2 100000 (by kernel_rfl) ?_
            refine W.no 2 100000 (by kernel_rfl) ?_
            refine W.no 2 100000 (by kernel_rfl) ?_
            refine W.no 2 100000 (by kernel_rfl) ?_
            cases h274; exact W.at 2 100000 [] [0, 8, 9, 10] (by kernel_rfl) K274
      ·
        cases h274; exact W.at 2 100000 [] [] (by kernel_rfl) K274

theorem cellarerref13_Check_con {l_279 : List (List UInt8 × List (List UInt8))} {r : Int} (h : cellarerref13_Check l_279 = some r) : Con Go.Proofs.Tryd.prog 17 [AV.list (Ty.prod Ty.str (Ty.list Ty.str)) l_279 Bool.false] [] (cellarerref13_Check_res r) (cellarerref13_Check_out r) := by
  refine W.con (by kernel_rfl) ?_
  unfold cellarerref13_Check at h
  refine W.cond 0 100000 h (by kernel_rfl) (fun h => ?_) (fun h => ?_)
  ·
    exact W.retT 0 100000 h (by kernel_rfl)
  ·
    refine W.at 0 100000 [] [0, 3] (c' := (fun (s_289 : Int) => (Cfg.mk Mode.run (headTodo Go.Proofs.Tryd.prog 17 0) (St.mk [AV.list (Ty.prod Ty.str (Ty.list Ty.str)) l_279 Bool.false, jj, jj, AV.int IntKind.i64 s_289, jj, jj, jj, jj, jj, jj, jj, jj, jj, jj, jj, jj, jj, jj, jj, jj, jj, jj, jj, jj, jj, jj, jj, jj, jj, jj, jj, jj, jj, jj, jj, jj, jj] [] (0 : Nat)))) ((0 : Int))) (by kernel_rfl) ?_
    refine W.loop (fun (s_289 : Int) => (Cfg.mk Mode.run (headTodo Go.Proofs.Tryd.prog 17 0) (St.mk [AV.list (Ty.prod Ty.str (Ty.list Ty.str)) l_279 Bool.false, jj, jj, AV.int IntKind.i64 s_289, jj, jj, jj, jj, jj, jj, jj, jj, jj, jj, jj, jj, jj, jj, jj, jj, jj, jj, jj, jj, jj, jj, jj, jj, jj, jj, jj, jj, jj, jj, jj, jj, jj] [] (0 : Nat)))) (fun t => (Sum.elim (fun t_283 => r = ((1 : Int))) (fun t_284 => Walk Go.Proofs.Tryd.prog 17 (Cfg.mk Mode.run ((headTodo Go.Proofs.Tryd.prog 17 0).drop 3) (St.mk [jj, jj, jj, jj, jj, jj, jj, jj, jj, jj, jj, jj, jj, jj, jj, jj, jj, jj, jj, jj, jj, jj, jj, jj, jj, jj, jj, jj, jj, jj, jj, jj, jj, jj, jj, jj, jj] [] (0 : Nat))) (cellarerref13_Check_res r) (cellarerref13_Check_out r))) t) h (fun t h => ?_) (fun s_289 x286 h286 K286 => ?_)
    ·
      rcases t with t_283 | t_284
      · replace h := W.inl (h)
        refine W.elimL (?_)
        exact (Option.some.inj h).symm
      · replace h := W.inr (h)
        refine W.elimR (?_)
        exact W.retT 0 100000 h (by kernel_rfl)
    · unfold cellarerref13_Check_b0 at h286
      refine W.cond 2 100000 h286 (by kernel_rfl) (fun h286 => ?_) (fun h286 => ?_)
      ·
        refine W.needT 2 100000 h286 (by kernel_rfl) (fun h286 => ?_)
        refine W.bind h286 fun a_282 ha_282 h286 => ?_
        refine W.call 2 100000 (by kernel_rfl) (cellarerref13_Right_con ha_282) (by kernel_rfl) ?_
        refine W.cond 2 100000 h286 (by kernel_rfl) (fun h286 => ?_) (fun h286 => ?_)
        ·
          refine W.yes 2 100000 (by kernel_rfl) ?_
          refine W.yes 2 100000 (by kernel_rfl) ?_
          refine W.yes 2 100000 (by kernel_rfl) ?_
          refine W.yes 2 100000 (by kernel_rfl) ?_
          refine W.yes 2 100000 (by kernel_rfl) ?_
          cases h286; exact W.retK 2 100000 K286 (by kernel_rfl)
        ·
          refine W.no 2 100000 (by kernel_rfl) ?_
          refine W.no 2 100000 (by kernel_rfl) ?_
          refine W.cond 2 100000 h286 (by kernel_rfl) (fun h286 => ?_) (fun h286 => ?_)
          ·
            refine W.yes 2 100000 (by kernel_rfl) ?_
            refine W.yes 2 100000 (by kernel_rfl) ?_
            refine W.yes 2 100000 (by kernel_rfl) ?_
            refine W.needT 2 100000 h286 (by kernel_rfl) (fun h286 => ?_)
            refine W.yes 2 100000 (by kernel_rfl) ?_
            refine W.yes 2 100000 (by kernel_rfl) ?_
            refine W.yes 2 100000 (by kernel_rfl) ?_
            refine W.yes 2 100000 (by kernel_rfl) ?_
            refine W.yes 2 100000 (by kernel_rfl) ?_
            refine W.needT 2 100000 h286 (by kernel_rfl) (fun h286 => ?_)
            refine W.yes 2 100000 (by kernel_rfl) ?_
            refine W.yes 2 100000 (by kernel_rfl) ?_
            refine W.yes 2 100000 (by kernel_rfl) ?_
            refine W.no 2 100000 (by kernel_rfl) ?_
            refine W.yes 2 100000 (by kernel_rfl) ?_
            refine W.no 2 100000 (by kernel_rfl) ?_
            refine W.cond 2 100000 h286 (by kernel_rfl) (fun h286 => ?_) (fun h286 => ?_)
            ·
              cases h286; exact W.retK 2 100000 K286 (by kernel_rfl)
            ·
              cases h286; exact W.at 2 100000 [] [0, 3] (by kernel_rfl) K286
          ·
            refine W.no 2 100000 (by kernel_rfl) ?_
            refine W.no 2 100000 (by kernel_rfl) ?_
            refine W.no 2 100000 (by kernel_rfl) ?_
            refine W.no 2 100000 (by kernel_rfl) ?_
            refine W.no 2 100000 (by kernel_rfl) ?_
            refine W.no 2 100000 (by kernel_rfl) ?_
            refine W.no 2 100000 (by kernel_rfl) ?_
            refine W.no 2 100000 (by kernel_rfl) ?_
            refine W.no 2 100000 (by kernel_rfl) ?_
            refine W.no 2 100000 (by kernel_rfl) ?_
            refine W.no 2 100000 (by kernel_rfl) ?_
            refine W.no 2 100000 (by kernel_rfl) ?_
            refine W.no 2 100000 (by kernel_rfl) ?_
            refine W.no 2 100000 (by kernel_rfl) ?_
            refine W.no 2 100000 (by kernel_rfl) ?_
            cases h286; exact W.at 2 100000 [] [0, 3] (by kernel_rfl) K286
      ·
        cases h286; exact W.at 2 100000 [] [] (by kernel_rfl) K286

theorem cellarerlaw13_Few_con {l_291 : List (List UInt8 × List (List UInt8))} {r : Bool} (h : cellarerlaw13_Few l_291 = some r) : Con Go.Proofs.Tryd.prog 12 [AV.list (Ty.prod Ty.str (Ty.list Ty.str)) l_291 Bool.false] [] (cellarerlaw13_Few_res r) (cellarerlaw13_Few_out r) := by
  refine W.con (by kernel_rfl) ?_
  unfold cellarerlaw13_Few at h
  refine W.cond 0 100000 h (by kernel_rfl) (fun h => ?_) (fun h => ?_)
  ·
    exact W.retT 0 100000 h (by kernel_rfl)
  ·
    refine W.at 0 100000 [] [0, 3, 4] (c' := (fun (s_313 : Int × Int) => (Cfg.mk Mode.run (headTodo Go.Proofs.Tryd.prog 12 0) (St.mk [AV.list (Ty.prod Ty.str (Ty.list Ty.str)) l_291 Bool.false, jj, jj, AV.int IntKind.i64 (Prod.fst s_313), AV.int IntKind.i64 (Prod.snd s_313), jj, jj, jj, jj, jj, jj, jj, jj, jj, jj, jj, jj, jj, jj, jj, jj, jj, jj, jj, jj, jj, jj, jj, jj, jj, jj, jj, jj, jj, jj, jj, jj, jj, jj, jj, jj, jj, jj, jj, jj, jj, jj, jj, jj, jj, jj, jj, jj, jj, jj, jj] [] (0 : Nat)))) ((0 : Int), (0 : Int))) (by kernel_rfl) ?_
    refine W.loop (fun (s_313 : Int × Int) => (Cfg.mk Mode.run (headTodo Go.Proofs.Tryd.prog 12 0) (St.mk [AV.list (Ty.prod Ty.str (Ty.list Ty.str)) l_291 Bool.false, jj, jj, AV.int IntKind.i64 (Prod.fst s_313), AV.int IntKind.i64 (Prod.snd s_313), jj, jj, jj, jj, jj, jj, jj, jj, jj, jj, jj, jj, jj, jj, jj, jj, jj, jj, jj, jj, jj, jj, jj, jj, jj, jj, jj, jj, jj, jj, jj, jj, jj, jj, jj, jj, jj, jj, jj, jj, jj, jj, jj, jj, jj, jj, jj, jj, jj, jj, jj] [] (0 : Nat)))) (fun t => (Sum.elim (fun t_306 => r = (Bool.false)) (fun t_307 => Walk Go.Proofs.Tryd.prog 12 (Cfg.mk Mode.run ((headTodo Go.Proofs.Tryd.prog 12 0).drop 3) (St.mk [jj, jj, jj, jj, jj, jj, jj, jj, jj, jj, jj, jj, jj, jj, jj, jj, jj, jj, jj, jj, jj, jj, jj, jj, jj, jj, jj, jj, jj, jj, jj, jj, jj, jj, jj, jj, jj, jj, jj, jj, jj, jj, jj, jj, jj, jj, jj, jj, jj, jj, jj, jj, jj, jj, jj, jj] [] (0 : Nat))) (cellarerlaw13_Few_res r) (cellarerlaw13_Few_out r))) t) h (fun t h => ?_) (fun s_313 x309 h309 K309 => ?_)
    ·
      rcases t with t_306 | t_307
      · replace h := W.inl (h)
        refine W.elimL (?_)
        exact (Option.some.inj h).symm
      · replace h := W.inr (h)
        refine W.elimR (?_)
        exact W.retT 0 100000 h (by kernel_rfl)
    · unfold cellarerlaw13_Few_b1 at h309
      refine W.cond 2 100000 h309 (by kernel_rfl) (fun h309 => ?_) (fun h309 => ?_)
      ·
        refine W.join (fun t => (Sum.elim (fun t_295 => r = (Bool.false)) (fun t_296 => Walk Go.Proofs.Tryd.prog 12 (Cfg.mk Mode.run (seqTodo Go.Proofs.Tryd.prog 12 10) (St.mk [AV.list (Ty.prod Ty.str (Ty.list Ty.str)) l_291 Bool.false, jj, jj, AV.int IntKind.i64 (Prod.fst s_313), AV.int IntKind.i64 (Prod.snd s_313), jj, jj, jj, jj, jj, jj, jj, jj, jj, jj, jj, jj, jj, jj, jj, jj, jj, jj, jj, jj, jj, jj, jj, jj, jj, jj, jj, jj, jj, jj, jj, jj, jj, jj, jj, jj, jj, jj, jj, jj, jj, jj, jj, jj, jj, jj, jj, jj, jj, jj, jj] [] (0 : Nat))) (cellarerlaw13_Few_res r) (cellarerlaw13_Few_out r))) t) h309 (fun t h309 => ?_) (fun t306 h306 K306 => ?_)
        ·
          rcases t with t_295 | t_296
          · replace h309 := W.inl (h309)
            refine W.elimL (?_)
            cases h309; exact K309
          · replace h309 := W.inr (h309)
            refine W.elimR (?_)
            refine W.at 2 100000 [] [0, 3, 4, 5] (c' := (fun (s_314 : Int × Int) => (Cfg.mk Mode.run (headTodo Go.Proofs.Tryd.prog 12 1) (St.mk [AV.list (Ty.prod Ty.str (Ty.list Ty.str)) l_291 Bool.false, jj, jj, AV.int IntKind.i64 (Prod.fst s_314), AV.int IntKind.i64 (Prod.snd s_313), AV.int IntKind.i64 (Prod.snd s_314), jj, jj, jj, jj, jj, jj, jj, jj, jj, jj, jj, jj, jj, jj, jj, jj, jj, jj, jj, jj, jj, jj, jj, jj, jj, jj, jj, jj, jj, jj, jj, jj, jj, jj, jj, jj, jj, jj, jj, jj, jj, jj, jj, jj, jj, jj, jj, jj, jj, jj] [] (0 : Nat)))) (Prod.fst s_313, (0 : Int))) (by kernel_rfl) ?_
            refine W.loop (fun (s_314 : Int × Int) => (Cfg.mk Mode.run (headTodo Go.Proofs.Tryd.prog 12 1) (St.mk [AV.list (Ty.prod Ty.str (Ty.list Ty.str)) l_291 Bool.false, jj, jj, AV.int IntKind.i64 (Prod.fst s_314), AV.int IntKind.i64 (Prod.snd s_313), AV.int IntKind.i64 (Prod.snd s_314), jj, jj, jj, jj, jj, jj, jj, jj, jj, jj, jj, jj, jj, jj, jj, jj, jj, jj, jj, jj, jj, jj, jj, jj, jj, jj, jj, jj, jj, jj, jj, jj, jj, jj, jj, jj, jj, jj, jj, jj, jj, jj, jj, jj, jj, jj, jj, jj, jj, jj] [] (0 : Nat)))) (fun t => (Sum.elim (fun t_301 => r = (Bool.false)) (fun t_303 => Walk Go.Proofs.Tryd.prog 12 (Cfg.mk Mode.run ((headTodo Go.Proofs.Tryd.prog 12 1).drop 3) (St.mk [AV.list (Ty.prod Ty.str (Ty.list Ty.str)) l_291 Bool.false, jj, jj, AV.int IntKind.i64 t_303, AV.int IntKind.i64 (Prod.snd s_313), jj, jj, jj, jj, jj, jj, jj, jj, jj, jj, jj, jj, jj, jj, jj, jj, jj, jj, jj, jj, jj, jj, jj, jj, jj, jj, jj, jj, jj, jj, jj, jj, jj, jj, jj, jj, jj, jj, jj, jj, jj, jj, jj, jj, jj, jj, jj, jj, jj, jj, jj] [] (0 : Nat))) (cellarerlaw13_Few_res r) (cellarerlaw13_Few_out r))) t) h309 (fun t h309 => ?_) (fun s_314 x305 h305 K305 => ?_)
            ·
              rcases t with t_301 | t_303
              · replace h309 := W.inl (h309)
                refine W.elimL (?_)
                cases h309; exact K309
              · replace h309 := W.inr (h309)
                refine W.elimR (?_)
                cases h309; exact W.at 2 100000 [] [0, 3, 4] (by kernel_rfl) K309
            · unfold cellarerlaw13_Few_b0 at h305
              refine W.needT 6 100000 h305 (by kernel_rfl) (fun h305 => ?_)
              refine W.cond 6 100000 h305 (by kernel_rfl) (fun h305 => ?_) (fun h305 => ?_)
              ·
                refine W.needT 6 100000 h305 (by kernel_rfl) (fun h305 => ?_)
                refine W.needT 6 100000 h305 (by kernel_rfl) (fun h305 => ?_)
                refine W.cond 6 100000 h305 (by kernel_rfl) (fun h305 => ?_) (fun h305 => ?_)
                ·
                  cases h305; exact W.retK 6 100000 K305 (by kernel_rfl)
                ·
                  cases h305; exact W.at 6 100000 [] [0, 3, 4, 5] (by kernel_rfl) K305
              ·
                cases h305; exact W.at 6 100000 [] [0, 3, 4] (by kernel_rfl) K305
        · refine W.next 2 4 (by kernel_rfl) ?_
          refine W.needT 6 100000 h306 (by kernel_rfl) (fun h306 => ?_)
          refine W.cond 6 100000 h306 (by kernel_rfl) (fun h306 => ?_) (fun h306 => ?_)
          ·
            refine W.yes 6 100000 (by kernel_rfl) ?_
            refine W.yes 6 100000 (by kernel_rfl) ?_
            refine W.yes 6 100000 (by kernel_rfl) ?_
            refine W.yes 6 100000 (by kernel_rfl) ?_
            refine W.yes 6 100000 (by kernel_rfl) ?_
            refine W.yes 6 100000 (by kernel_rfl) ?_
            refine W.yes 6 100000 (by kernel_rfl) ?_
            refine W.yes 6 100000 (by kernel_rfl) ?_
            cases h306; exact W.retK 6 100000 K306 (by kernel_rfl)
          ·
            refine W.no 6 100000 (by kernel_rfl) ?_
            refine W.no 6 100000 (by kernel_rfl) ?_
            refine W.needT 6 100000 h306 (by kernel_rfl) (fun h306 => ?_)
            refine W.no 6 100000 (by kernel_rfl) ?_
            refine W.no 6 100000 (by kernel_rfl) ?_
            refine W.no 6 100000 (by kernel_rfl) ?_
            refine W.no 6 100000 (by kernel_rfl) ?_
            refine W.no 6 100000 (by kernel_rfl) ?_
            refine W.cond 6 100000 h306 (by kernel_rfl) (fun h306 => ?_) (fun h306 => ?_)
            ·
              cases h306; exact W.retK 6 100000 K306 (by kernel_rfl)
            ·
              cases h306; exact W.at 6 100000 [] [0, 3, 4] (by kernel_rfl) K306
      ·
        cases h309; exact W.at 2 100000 [] [] (by kernel_rfl) K309

theorem lists_Print_con {x_316 : List UInt8} {x_317 : List (List UInt8)} {r : List UInt8 × Int} (h : lists_Print x_316 x_317 = some r) : Con Go.Proofs.Tryd.prog 11 [AV.agg [AV.str x_316, AV.list Ty.str x_317 Bool.false]] [] (lists_Print_res r) (lists_Print_out r) := by
  refine W.con (by kernel_rfl) ?_
  unfold lists_Print at h
  refine W.bind h fun a_318 ha_318 h => ?_
  refine W.call 0 100000 (by kernel_rfl) (lists_Right_con ha_318) (by kernel_rfl) ?_
  refine W.cond 0 100000 h (by kernel_rfl) (fun h => ?_) (fun h => ?_)
  ·
    exact W.retT 0 100000 h (by kernel_rfl)
  ·
    refine W.at 0 100000 [] [4, 11, 12, 13] (c' := (fun (s_333 : Int × List UInt8) => (Cfg.mk Mode.run (headTodo Go.Proofs.Tryd.prog 11 0) (St.mk [jj, jj, jj, jj, AV.ptr (0 : Nat) (0 : Nat), jj, jj, jj, jj, jj, jj, AV.list Ty.str x_317 Bool.false, AV.int IntKind.i64 (↑(List.length x_317) : Int), AV.int IntKind.i64 (Prod.fst s_333), jj, jj, jj, jj, jj, jj, jj, jj] [AO.bld (59 : Nat) (AV.view (1 : Nat) (0 : Nat) Option.none), AO.buf (5 : Nat) (Prod.snd s_333)] (0 : Nat)))) ((0 : Int), [])) (by kernel_rfl) ?_
    refine W.loop (fun (s_333 : Int × List UInt8) => (Cfg.mk Mode.run (headTodo Go.Proofs.Tryd.prog 11 0) (St.mk [jj, jj, jj, jj, AV.ptr (0 : Nat) (0 : Nat), jj, jj, jj, jj, jj, jj, AV.list Ty.str x_317 Bool.false, AV.int IntKind.i64 (↑(List.length x_317) : Int), AV.int IntKind.i64 (Prod.fst s_333), jj, jj, jj, jj, jj, jj, jj, jj] [AO.bld (59 : Nat) (AV.view (1 : Nat) (0 : Nat) Option.none), AO.buf (5 : Nat) (Prod.snd s_333)] (0 : Nat)))) (fun t_326 => Walk Go.Proofs.Tryd.prog 11 (Cfg.mk Mode.run ((headTodo Go.Proofs.Tryd.prog 11 0).drop 3) (St.mk [jj, jj, jj, jj, AV.ptr (0 : Nat) (0 : Nat), jj, jj, jj, jj, jj, jj, jj, jj, jj, jj, jj, jj, jj, jj, jj, jj, jj] [AO.bld (59 : Nat) (AV.view (1 : Nat) (0 : Nat) Option.none), AO.buf (5 : Nat) t_326] (0 : Nat))) (lists_Print_res r) (lists_Print_out r)) h (fun t_326 h => ?_) (fun s_333 x329 h329 K329 => ?_)
    ·
      refine W.bind h fun a_327 ha_327 h => ?_
      refine W.call 0 100000 (by kernel_rfl) (x__strings_Builder__String_con ha_327) (by kernel_rfl) ?_
      exact W.retT 0 100000 h (by kernel_rfl)
    · unfold lists_Print_b0 at h329
      refine W.cond 2 100000 h329 (by kernel_rfl) (fun h329 => ?_) (fun h329 => ?_)
      ·
        refine W.needT 2 100000 h329 (by kernel_rfl) (fun h329 => ?_)
        refine W.bind h329 fun a_323 ha_323 h329 => ?_
        refine W.call 2 100000 (by kernel_rfl) (x__strings_Builder__WriteString_con ha_323) (by kernel_rfl) ?_
        refine W.bind h329 fun a_324 ha_324 h329 => ?_
        refine W.call 2 100000 (by kernel_rfl) (x__strings_Builder__WriteByte_con ha_324) (by kernel_rfl) ?_
        cases h329; exact W.at 2 100000 [] [4, 11, 12, 13] (by kernel_rfl) K329
      ·
        cases h329; exact W.at 2 100000 [] [4] (by kernel_rfl) K329

theorem cellarerref13_Print_con {x_335 : List UInt8} {x_336 : List (List UInt8)} {r : List UInt8 × Int} (h : cellarerref13_Print x_335 x_336 = some r) : Con Go.Proofs.Tryd.prog 13 [AV.agg [AV.str x_335, AV.list Ty.str x_336 Bool.false]] [] (cellarerref13_Print_res r) (cellarerref13_Print_out r) := by
  refine W.con (by kernel_rfl) ?_
  unfold cellarerref13_Print at h
  refine W.bind h fun a_337 ha_337 h => ?_
  refine W.call 0 100000 (by kernel_rfl) (cellarerref13_Right_con ha_337) (by kernel_rfl) ?_
  refine W.cond 0 100000 h (by kernel_rfl) (fun h => ?_) (fun h => ?_)
  ·
    exact W.retT 0 100000 h (by kernel_rfl)
  ·
    refine W.at 0 100000 [] [1, 4, 5] (c' := (fun (s_349 : List UInt8 × Int) => (Cfg.mk Mode.run (headTodo Go.Proofs.Tryd.prog 13 0) (St.mk [jj, AV.ptr (0 : Nat) (0 : Nat), jj, jj, AV.str (Prod.fst s_349), AV.int IntKind.i64 (Prod.snd s_349), jj, jj, jj, jj, jj, jj, jj, jj, jj, jj, jj, jj, jj, jj, jj, jj, jj, jj, jj] [AO.box [AV.str x_335, AV.list Ty.str x_336 Bool.false]] (0 : Nat)))) ([], (0 : Int))) (by kernel_rfl) ?_
    refine W.loop (fun (s_349 : List UInt8 × Int) => (Cfg.mk Mode.run (headTodo Go.Proofs.Tryd.prog 13 0) (St.mk [jj, AV.ptr (0 : Nat) (0 : Nat), jj, jj, AV.str (Prod.fst s_349), AV.int IntKind.i64 (Prod.snd s_349), jj, jj, jj, jj, jj, jj, jj, jj, jj, jj, jj, jj, jj, jj, jj, jj, jj, jj, jj] [AO.box [AV.str x_335, AV.list Ty.str x_336 Bool.false]] (0 : Nat)))) (fun t_343 => Walk Go.Proofs.Tryd.prog 13 (Cfg.mk Mode.run ((headTodo Go.Proofs.Tryd.prog 13 0).drop 3) (St.mk [jj, jj, jj, jj, AV.str t_343, jj, jj, jj, jj, jj, jj, jj, jj, jj, jj, jj, jj, jj, jj, jj, jj, jj, jj, jj, jj] [] (0 : Nat))) (cellarerref13_Print_res r) (cellarerref13_Print_out r)) h (fun t_343 h => ?_) (fun s_349 x345 h345 K345 => ?_)
    ·
      exact W.retT 0 100000 h (by kernel_rfl)
    · unfold cellarerref13_Print_b0 at h345
      refine W.cond 2 100000 h345 (by kernel_rfl) (fun h345 => ?_) (fun h345 => ?_)
      ·
        refine W.needT 2 100000 h345 (by kernel_rfl) (fun h345 => ?_)
        refine W.needT 2 100000 h345 (by kernel_rfl) (fun h345 => ?_)
        refine W.needT 2 100000 h345 (by kernel_rfl) (fun h345 => ?_)
        cases h345; exact W.at 2 100000 [] [1, 4, 5] (by kernel_rfl) K345
      ·
        cases h345; exact W.at 2 100000 [] [4] (by kernel_rfl) K345

theorem stringslite_HasSuffix_con {s_354 : List UInt8} {suffix_355 : List UInt8} {r : Bool} (h : stringslite_HasSuffix s_354 suffix_355 = some r) : Con Go.Proofs.Tryd.prog 64 [AV.str s_354, AV.str suffix_355] [] (stringslite_HasSuffix_res r) (stringslite_HasSuffix_out r) := by
  refine W.con (by kernel_rfl) ?_
  unfold stringslite_HasSuffix at h
  refine W.cond 0 100000 h (by kernel_rfl) (fun h => ?_) (fun h => ?_)
  ·
    refine W.yes 0 100000 (by kernel_rfl) ?_
    refine W.yes 0 100000 (by kernel_rfl) ?_
    refine W.yes 0 100000 (by kernel_rfl) ?_
    refine W.yes 0 100000 (by kernel_rfl) ?_
    refine W.yes 0 100000 (by kernel_rfl) ?_
    refine W.yes 0 100000 (by kernel_rfl) ?_
    refine W.needT 0 100000 h (by kernel_rfl) (fun h => ?_)
    refine W.yes 0 100000 (by kernel_rfl) ?_
    refine W.yes 0 100000 (by kernel_rfl) ?_
    refine W.yes 0 100000 (by kernel_rfl) ?_
    exact W.retT 0 100000 h (by kernel_rfl)
  ·
    refine W.no 0 100000 (by kernel_rfl) ?_
    refine W.no 0 100000 (by kernel_rfl) ?_
    refine W.no 0 100000 (by kernel_rfl) ?_
    refine W.no 0 100000 (by kernel_rfl) ?_
    refine W.no 0 100000 (by kernel_rfl) ?_
    refine W.no 0 100000 (by kernel_rfl) ?_
    refine W.no 0 100000 (by kernel_rfl) ?_
    refine W.no 0 100000 (by kernel_rfl) ?_
    refine W.no 0 100000 (by kernel_rfl) ?_
    exact W.retT 0 100000 h (by kernel_rfl)

theorem strings_HasSuffix_con {s_352 : List UInt8} {suffix_353 : List UInt8} {r : Bool} (h : strings_HasSuffix s_352 suffix_353 = some r) : Con Go.Proofs.Tryd.prog 53 [AV.str s_352, AV.str suffix_353] [] (strings_HasSuffix_res r) (strings_HasSuffix_out r) := by
  refine W.con (by kernel_rfl) ?_
  unfold strings_HasSuffix at h
  refine W.bind h fun a_358 ha_358 h => ?_
  refine W.call 0 100000 (by kernel_rfl) (stringslite_HasSuffix_con ha_358) (by kernel_rfl) ?_
  exact W.retT 0 100000 h (by kernel_rfl)

theorem stanza_Lines_con {s_351 : List UInt8} {r : Int × List (List UInt8)} (h : stanza_Lines s_351 = some r) : Con Go.Proofs.Tryd.prog 30 [AV.str s_351] [] (stanza_Lines_res r) (stanza_Lines_out r) := by
  refine W.con (by kernel_rfl) ?_
  unfold stanza_Lines at h
  refine W.cond 0 100000 h (by kernel_rfl) (fun h => ?_) (fun h => ?_)
  ·
    exact W.retT 0 100000 h (by kernel_rfl)
  ·
    refine W.bind h fun a_361 ha_361 h => ?_
    refine W.call 0 100000 (by kernel_rfl) (strings_HasSuffix_con ha_361) (by kernel_rfl) ?_
    refine W.cond 0 100000 h (by kernel_rfl) (fun h => ?_) (fun h => ?_)
    ·
      exact W.retT 0 100000 h (by kernel_rfl)
    ·
      refine W.needT 0 100000 h (by kernel_rfl) (fun h => ?_)
      refine W.bind h fun a_362 ha_362 h => ?_
      refine W.call 0 100000 (by kernel_rfl) (strings_Split_con ha_362) (by kernel_rfl) ?_
      exact W.retT 0 100000 h (by kernel_rfl)

theorem cellarerref06_Split_con {s_368 : List UInt8} {c_369 : Int} {r : List (List UInt8)} (h : cellarerref06_Split s_368 c_369 = some r) : Con Go.Proofs.Tryd.prog 55 [AV.str s_368, AV.int IntKind.u8 c_369] [] (cellarerref06_Split_res r) (cellarerref06_Split_out r) := by
  refine W.con (by kernel_rfl) ?_
  unfold cellarerref06_Split at h
  refine W.at 0 100000 [Co.own 5 (Ty.str)] [0, 1, 5, 6, 7] (c' := (fun (s_386 : List UInt8 × Int × List (List UInt8)) => (Cfg.mk Mode.run (headTodo Go.Proofs.Tryd.prog 55 0) (St.mk [AV.str s_368, AV.int IntKind.u8 c_369, jj, jj, jj, AV.view (0 : Nat) (0 : Nat) Option.none, AV.str (Prod.fst s_386), AV.int IntKind.i64 (Prod.fst (Prod.snd s_386)), jj, jj, jj, jj, jj, jj, jj, jj, jj, jj, jj, jj, jj, jj, jj, jj, jj, jj, jj, jj, jj, jj, jj, jj, jj, jj] [AO.row Ty.str (Prod.snd (Prod.snd s_386))] (0 : Nat)))) ([], (0 : Int), [])) (by kernel_rfl) ?_
  refine W.loop (fun (s_386 : List UInt8 × Int × List (List UInt8)) => (Cfg.mk Mode.run (headTodo Go.Proofs.Tryd.prog 55 0) (St.mk [AV.str s_368, AV.int IntKind.u8 c_369, jj, jj, jj, AV.view (0 : Nat) (0 : Nat) Option.none, AV.str (Prod.fst s_386), AV.int IntKind.i64 (Prod.fst (Prod.snd s_386)), jj, jj, jj, jj, jj, jj, jj, jj, jj, jj, jj, jj, jj, jj, jj, jj, jj, jj, jj, jj, jj, jj, jj, jj, jj, jj] [AO.row Ty.str (Prod.snd (Prod.snd s_386))] (0 : Nat)))) (fun t_381 => Walk Go.Proofs.Tryd.prog 55 (Cfg.mk Mode.run ((headTodo Go.Proofs.Tryd.prog 55 0).drop 3) (St.mk [jj, jj, jj, jj, jj, AV.view (0 : Nat) (0 : Nat) Option.none, AV.str (Prod.fst t_381), jj, jj, jj, jj, jj, jj, jj, jj, jj, jj, jj, jj, jj, jj, jj, jj, jj, jj, jj, jj, jj, jj, jj, jj, jj, jj, jj] [AO.row Ty.str (Prod.snd t_381)] (0 : Nat))) (cellarerref06_Split_res r) (cellarerref06_Split_out r)) h (fun t_381 h => ?_) (fun s_386 x383 h383 K383 => ?_)
  ·
    refine W.needT 0 100000 h (by kernel_rfl) (fun h => ?_)
    exact W.retT 0 100000 h (by kernel_rfl)
  · unfold cellarerref06_Split_b0 at h383
    refine W.cond 2 100000 h383 (by kernel_rfl) (fun h383 => ?_) (fun h383 => ?_)
    ·
      refine W.needT 2 100000 h383 (by kernel_rfl) (fun h383 => ?_)
      refine W.cond 2 100000 h383 (by kernel_rfl) (fun h383 => ?_) (fun h383 => ?_)
      ·
        refine W.needT 2 100000 h383 (by kernel_rfl) (fun h383 => ?_)
        cases h383; exact W.at 2 100000 [Co.own 5 (Ty.str)] [0, 1, 5, 6, 7] (by kernel_rfl) K383
      ·
        refine W.needT 2 100000 h383 (by kernel_rfl) (fun h383 => ?_)
        refine W.needT 2 100000 h383 (by kernel_rfl) (fun h383 => ?_)
        cases h383; exact W.at 2 100000 [Co.own 5 (Ty.str)] [0, 1, 5, 6, 7] (by kernel_rfl) K383
    ·
      cases h383; exact W.at 2 100000 [] [5, 6] (by kernel_rfl) K383

theorem cellarerref06_Lines_con {s_367 : List UInt8} {r : Bool × List (List UInt8)} (h : cellarerref06_Lines s_367 = some r) : Con Go.Proofs.Tryd.prog 31 [AV.str s_367] [] (cellarerref06_Lines_res r) (cellarerref06_Lines_out r) := by
  refine W.con (by kernel_rfl) ?_
  unfold cellarerref06_Lines at h
  refine W.bind h fun a_387 ha_387 h => ?_
  refine W.call 0 100000 (by kernel_rfl) (cellarerref06_Split_con ha_387) (by kernel_rfl) ?_
  refine W.needT 0 100000 h (by kernel_rfl) (fun h => ?_)
  refine W.needT 0 100000 h (by kernel_rfl) (fun h => ?_)
  refine W.needT 0 100000 h (by kernel_rfl) (fun h => ?_)
  exact W.retT 0 100000 h (by kernel_rfl)

theorem lists_Parse_con {name_393 : List UInt8} {s_394 : List UInt8} {r : List UInt8 × List (List UInt8) × Int} (h : lists_Parse name_393 s_394 = some r) : Con Go.Proofs.Tryd.prog 8 [AV.str name_393, AV.str s_394] [] (lists_Parse_res r) (lists_Parse_out r) := by
  refine W.con (by kernel_rfl) ?_
  unfold lists_Parse at h
  refine W.bind h fun a_395 ha_395 h => ?_
  refine W.call 0 100000 (by kernel_rfl) (stanza_Lines_con ha_395) (by kernel_rfl) ?_
  refine W.cond 0 100000 h (by kernel_rfl) (fun h => ?_) (fun h => ?_)
  ·
    refine W.yes 0 100000 (by kernel_rfl) ?_
    refine W.yes 0 100000 (by kernel_rfl) ?_
    refine W.yes 0 100000 (by kernel_rfl) ?_
    refine W.yes 0 100000 (by kernel_rfl) ?_
    exact W.retT 0 100000 h (by kernel_rfl)
  ·
    refine W.no 0 100000 (by kernel_rfl) ?_
    refine W.bind h fun a_396 ha_396 h => ?_
    refine W.call 0 100000 (by kernel_rfl) (lists_Right_con ha_396) (by kernel_rfl) ?_
    refine W.no 0 100000 (by kernel_rfl) ?_
    refine W.no 0 100000 (by kernel_rfl) ?_
    refine W.cond 0 100000 h (by kernel_rfl) (fun h => ?_) (fun h => ?_)
    ·
      exact W.retT 0 100000 h (by kernel_rfl)
    ·
      exact W.retT 0 100000 h (by kernel_rfl)

theorem cellarerref13_Parse_con {name_403 : List UInt8} {s_404 : List UInt8} {r : List UInt8 × List (List UInt8) × Bool} (h : cellarerref13_Parse name_403 s_404 = some r) : Con Go.Proofs.Tryd.prog 9 [AV.str name_403, AV.str s_404] [] (cellarerref13_Parse_res r) (cellarerref13_Parse_out r) := by
  refine W.con (by kernel_rfl) ?_
  unfold cellarerref13_Parse at h
  refine W.bind h fun a_405 ha_405 h => ?_
  refine W.call 0 100000 (by kernel_rfl) (cellarerref06_Lines_con ha_405) (by kernel_rfl) ?_
  refine W.bind h fun a_406 ha_406 h => ?_
  refine W.call 0 100000 (by kernel_rfl) (cellarerref13_Print_con ha_406) (by kernel_rfl) ?_
  refine W.cond 0 100000 h (by kernel_rfl) (fun h => ?_) (fun h => ?_)
  ·
    refine W.yes 0 100000 (by kernel_rfl) ?_
    refine W.yes 0 100000 (by kernel_rfl) ?_
    refine W.yes 0 100000 (by kernel_rfl) ?_
    refine W.yes 0 100000 (by kernel_rfl) ?_
    refine W.yes 0 100000 (by kernel_rfl) ?_
    refine W.yes 0 100000 (by kernel_rfl) ?_
    refine W.yes 0 100000 (by kernel_rfl) ?_
    exact W.retT 0 100000 h (by kernel_rfl)
  ·
    refine W.no 0 100000 (by kernel_rfl) ?_
    refine W.no 0 100000 (by kernel_rfl) ?_
    refine W.cond 0 100000 h (by kernel_rfl) (fun h => ?_) (fun h => ?_)
    ·
      refine W.yes 0 100000 (by kernel_rfl) ?_
      refine W.yes 0 100000 (by kernel_rfl) ?_
      refine W.yes 0 100000 (by kernel_rfl) ?_
      refine W.yes 0 100000 (by kernel_rfl) ?_
      exact W.retT 0 100000 h (by kernel_rfl)
    ·
      refine W.no 0 100000 (by kernel_rfl) ?_
      refine W.no 0 100000 (by kernel_rfl) ?_
      refine W.no 0 100000 (by kernel_rfl) ?_
      refine W.cond 0 100000 h (by kernel_rfl) (fun h => ?_) (fun h => ?_)
      ·
        exact W.retT 0 100000 h (by kernel_rfl)
      ·
        exact W.retT 0 100000 h (by kernel_rfl)

theorem cellarerref02_Same_con {a_418 : List (List UInt8)} {b_419 : List (List UInt8)} {r : Bool} (h : cellarerref02_Same a_418 b_419 = some r) : Con Go.Proofs.Tryd.prog 19 [AV.list Ty.str a_418 Bool.false, AV.list Ty.str b_419 Bool.false] [] (cellarerref02_Same_res r) (cellarerref02_Same_out r) := by
  refine W.con (by kernel_rfl) ?_
  unfold cellarerref02_Same at h
  refine W.cond 0 100000 h (by kernel_rfl) (fun h => ?_) (fun h => ?_)
  ·
    exact W.retT 0 100000 h (by kernel_rfl)
  ·
    refine W.at 0 100000 [] [0, 1, 5] (c' := (fun (s_429 : Int) => (Cfg.mk Mode.run (headTodo Go.Proofs.Tryd.prog 19 0) (St.mk [AV.list Ty.str a_418 Bool.false, AV.list Ty.str b_419 Bool.false, jj, jj, jj, AV.int IntKind.i64 s_429, jj, jj, jj, jj, jj, jj, jj, jj, jj, jj, jj, jj, jj, jj, jj, jj, jj, jj, jj, jj] [] (0 : Nat)))) ((0 : Int))) (by kernel_rfl) ?_
    refine W.loop (fun (s_429 : Int) => (Cfg.mk Mode.run (headTodo Go.Proofs.Tryd.prog 19 0) (St.mk [AV.list Ty.str a_418 Bool.false, AV.list Ty.str b_419 Bool.false, jj, jj, jj, AV.int IntKind.i64 s_429, jj, jj, jj, jj, jj, jj, jj, jj, jj, jj, jj, jj, jj, jj, jj, jj, jj, jj, jj, jj] [] (0 : Nat)))) (fun t => (Sum.elim (fun t_423 => r = (Bool.false)) (fun t_424 => Walk Go.Proofs.Tryd.prog 19 (Cfg.mk Mode.run ((headTodo Go.Proofs.Tryd.prog 19 0).drop 3) (St.mk [jj, jj, jj, jj, jj, jj, jj, jj, jj, jj, jj, jj, jj, jj, jj, jj, jj, jj, jj, jj, jj, jj, jj, jj, jj, jj] [] (0 : Nat))) (cellarerref02_Same_res r) (cellarerref02_Same_out r))) t) h (fun t h => ?_) (fun s_429 x426 h426 K426 => ?_)
    ·
      rcases t with t_423 | t_424
      · replace h := W.inl (h)
        refine W.elimL (?_)
        exact (Option.some.inj h).symm
      · replace h := W.inr (h)
        refine W.elimR (?_)
        exact W.retT 0 100000 h (by kernel_rfl)
    · unfold cellarerref02_Same_b0 at h426
      refine W.cond 2 100000 h426 (by kernel_rfl) (fun h426 => ?_) (fun h426 => ?_)
      ·
        refine W.needT 2 100000 h426 (by kernel_rfl) (fun h426 => ?_)
        refine W.needT 2 100000 h426 (by kernel_rfl) (fun h426 => ?_)
        refine W.cond 2 100000 h426 (by kernel_rfl) (fun h426 => ?_) (fun h426 => ?_)
        ·
          cases h426; exact W.retK 2 100000 K426 (by kernel_rfl)
        ·
          cases h426; exact W.at 2 100000 [] [0, 1, 5] (by kernel_rfl) K426
      ·
        cases h426; exact W.at 2 100000 [] [] (by kernel_rfl) K426

theorem cellarerref13_Same_con {a_413 : List (List UInt8 × List (List UInt8))} {b_414 : List (List UInt8 × List (List UInt8))} {r : Bool} (h : cellarerref13_Same a_413 b_414 = some r) : Con Go.Proofs.Tryd.prog 10 [AV.list (Ty.prod Ty.str (Ty.list Ty.str)) a_413 Bool.false, AV.list (Ty.prod Ty.str (Ty.list Ty.str)) b_414 Bool.false] [] (cellarerref13_Same_res r) (cellarerref13_Same_out r) := by
  refine W.con (by kernel_rfl) ?_
  unfold cellarerref13_Same at h
  refine W.cond 0 100000 h (by kernel_rfl) (fun h => ?_) (fun h => ?_)
  ·
    exact W.retT 0 100000 h (by kernel_rfl)
  ·
    refine W.at 0 100000 [] [0, 1, 5] (c' := (fun (s_437 : Int) => (Cfg.mk Mode.run (headTodo Go.Proofs.Tryd.prog 10 0) (St.mk [AV.list (Ty.prod Ty.str (Ty.list Ty.str)) a_413 Bool.false, AV.list (Ty.prod Ty.str (Ty.list Ty.str)) b_414 Bool.false, jj, jj, jj, AV.int IntKind.i64 s_437, jj, jj, jj, jj, jj, jj, jj, jj, jj, jj, jj, jj, jj, jj, jj, jj, jj, jj, jj, jj, jj, jj, jj, jj, jj, jj, jj, jj, jj, jj, jj, jj, jj, jj, jj, jj] [] (0 : Nat)))) ((0 : Int))) (by kernel_rfl) ?_
    refine W.loop (fun (s_437 : Int) => (Cfg.mk Mode.run (headTodo Go.Proofs.Tryd.prog 10 0) (St.mk [AV.list (Ty.prod Ty.str (Ty.list Ty.str)) a_413 Bool.false, AV.list (Ty.prod Ty.str (Ty.list Ty.str)) b_414 Bool.false, jj, jj, jj, AV.int IntKind.i64 s_437, jj, jj, jj, jj, jj, jj, jj, jj, jj, jj, jj, jj, jj, jj, jj, jj, jj, jj, jj, jj, jj, jj, jj, jj, jj, jj, jj, jj, jj, jj, jj, jj, jj, jj, jj, jj] [] (0 : Nat)))) (fun t => (Sum.elim (fun t_431 => r = (Bool.false)) (fun t_432 => Walk Go.Proofs.Tryd.prog 10 (Cfg.mk Mode.run ((headTodo Go.Proofs.Tryd.prog 10 0).drop 3) (St.mk [jj, jj, jj, jj, jj, jj, jj, jj, jj, jj, jj, jj, jj, jj, jj, jj, jj, jj, jj, jj, jj, jj, jj, jj, jj, jj, jj, jj, jj, jj, jj, jj, jj, jj, jj, jj, jj, jj, jj, jj, jj, jj] [] (0 : Nat))) (cellarerref13_Same_res r) (cellarerref13_Same_out r))) t) h (fun t h => ?_) (fun s_437 x434 h434 K434 => ?_)
    ·
      rcases t with t_431 | t_432
      · replace h := W.inl (h)
        refine W.elimL (?_)
        exact (Option.some.inj h).symm
      · replace h := W.inr (h)
        refine W.elimR (?_)
        exact W.retT 0 100000 h (by kernel_rfl)
    · unfold cellarerref13_Same_b0 at h434
      refine W.cond 2 100000 h434 (by kernel_rfl) (fun h434 => ?_) (fun h434 => ?_)
      ·
        refine W.needT 2 100000 h434 (by kernel_rfl) (fun h434 => ?_)
        refine W.needT 2 100000 h434 (by kernel_rfl) (fun h434 => ?_)
        refine W.cond 2 100000 h434 (by kernel_rfl) (fun h434 => ?_) (fun h434 => ?_)
        ·
          refine W.yes 2 100000 (by kernel_rfl) ?_
          refine W.yes 2 100000 (by kernel_rfl) ?_
          refine W.yes 2 100000 (by kernel_rfl) ?_
          refine W.yes 2 100000 (by kernel_rfl) ?_
          refine W.yes 2 100000 (by kernel_rfl) ?_
          refine W.yes 2 100000 (by kernel_rfl) ?_
          refine W.yes 2 100000 (by kernel_rfl) ?_
          refine W.yes 2 100000 (by kernel_rfl) ?_
          refine W.yes 2 100000 (by kernel_rfl) ?_
          refine W.yes 2 100000 (by kernel_rfl) ?_
          refine W.yes 2 100000 (by kernel_rfl) ?_
          refine W.yes 2 100000 (by kernel_rfl) ?_
          refine W.yes 2 100000 (by kernel_rfl) ?_
          cases h434; exact W.retK 2 100000 K434 (by kernel_rfl)
        ·
          refine W.no 2 100000 (by kernel_rfl) ?_
          refine W.no 2 100000 (by kernel_rfl) ?_
          refine W.needT 2 100000 h434 (by kernel_rfl) (fun h434 => ?_)
          refine W.no 2 100000 (by kernel_rfl) ?_
          refine W.no 2 100000 (by kernel_rfl) ?_
          refine W.no 2 100000 (by kernel_rfl) ?_
          refine W.no 2 100000 (by kernel_rfl) ?_
          refine W.no 2 100000 (by kernel_rfl) ?_
          refine W.needT 2 100000 h434 (by kernel_rfl) (fun h434 => ?_)
          refine W.no 2 100000 (by kernel_rfl) ?_
          refine W.no 2 100000 (by kernel_rfl) ?_
          refine W.no 2 100000 (by kernel_rfl) ?_
          refine W.bind h434 fun a_430 ha_430 h434 => ?_
          refine W.call 2 100000 (by kernel_rfl) (cellarerref02_Same_con ha_430) (by kernel_rfl) ?_
          refine W.no 2 100000 (by kernel_rfl) ?_
          refine W.no 2 100000 (by kernel_rfl) ?_
          refine W.cond 2 100000 h434 (by kernel_rfl) (fun h434 => ?_) (fun h434 => ?_)
          ·
            cases h434; exact W.retK 2 100000 K434 (by kernel_rfl)
          ·
            cases h434; exact W.at 2 100000 [] [0, 1, 5] (by kernel_rfl) K434
      ·
        cases h434; exact W.at 2 100000 [] [] (by kernel_rfl) K434

theorem cellarerref02_Has_con {l_442 : List (List UInt8)} {s_443 : List UInt8} {r : Bool} (h : cellarerref02_Has l_442 s_443 = some r) : Con Go.Proofs.Tryd.prog 46 [AV.list Ty.str l_442 Bool.false, AV.str s_443] [] (cellarerref02_Has_res r) (cellarerref02_Has_out r) := by
  refine W.con (by kernel_rfl) ?_
  unfold cellarerref02_Has at h
  refine W.at 0 100000 [] [0, 1, 5] (c' := (fun (s_453 : Int) => (Cfg.mk Mode.run (headTodo Go.Proofs.Tryd.prog 46 0) (St.mk [AV.list Ty.str l_442 Bool.false, AV.str s_443, jj, jj, jj, AV.int IntKind.i64 s_453, jj, jj, jj, jj, jj, jj, jj, jj, jj, jj, jj, jj] [] (0 : Nat)))) ((0 : Int))) (by kernel_rfl) ?_
  refine W.loop (fun (s_453 : Int) => (Cfg.mk Mode.run (headTodo Go.Proofs.Tryd.prog 46 0) (St.mk [AV.list Ty.str l_442 Bool.false, AV.str s_443, jj, jj, jj, AV.int IntKind.i64 s_453, jj, jj, jj, jj, jj, jj, jj, jj, jj, jj, jj, jj] [] (0 : Nat)))) (fun t => (Sum.elim (fun t_447 => r = (Bool.true)) (fun t_448 => Walk Go.Proofs.Tryd.prog 46 (Cfg.mk Mode.run ((headTodo Go.Proofs.Tryd.prog 46 0).drop 3) (St.mk [jj, jj, jj, jj, jj, jj, jj, jj, jj, jj, jj, jj, jj, jj, jj, jj, jj, jj] [] (0 : Nat))) (cellarerref02_Has_res r) (cellarerref02_Has_out r))) t) h (fun t h => ?_) (fun s_453 x450 h450 K450 => ?_)
  ·
    rcases t with t_447 | t_448
    · replace h := W.inl (h)
      refine W.elimL (?_)
      exact (Option.some.inj h).symm
    · replace h := W.inr (h)
      refine W.elimR (?_)
      exact W.retT 0 100000 h (by kernel_rfl)
  · unfold cellarerref02_Has_b0 at h450
    refine W.cond 2 100000 h450 (by kernel_rfl) (fun h450 => ?_) (fun h450 => ?_)
    ·
      refine W.needT 2 100000 h450 (by kernel_rfl) (fun h450 => ?_)
      refine W.cond 2 100000 h450 (by kernel_rfl) (fun h450 => ?_) (fun h450 => ?_)
      ·
        cases h450; exact W.retK 2 100000 K450 (by kernel_rfl)
      ·
        cases h450; exact W.at 2 100000 [] [0, 1, 5] (by kernel_rfl) K450
    ·
      cases h450; exact W.at 2 100000 [] [] (by kernel_rfl) K450

theorem lists_Find_1_con {x_464 : List UInt8} {x_465 : List (List UInt8)} {o0_466 : List UInt8} {r : Bool × List UInt8} (h : lists_Find_1 x_464 x_465 o0_466 = some r) : Con Go.Proofs.Tryd.prog 48 [AV.agg [AV.str x_464, AV.list Ty.str x_465 Bool.false], AV.ptr (0 : Nat) (0 : Nat)] [AO.box [AV.str o0_466]] (lists_Find_1_res r) (lists_Find_1_out r) := by
  refine W.con (by kernel_rfl) ?_
  unfold lists_Find_1 at h
  exact W.retT 0 100000 h (by kernel_rfl)

theorem api_List__con {s_458 : List (List UInt8 × List (List UInt8))} {o0_459 : List UInt8} {r : Int × List UInt8} (h : api_List_ s_458 o0_459 = some r) : Con Go.Proofs.Tryd.prog 47 [AV.list (Ty.prod Ty.str (Ty.list Ty.str)) s_458 Bool.false, AV.func (Go.Fn.func (48 : Nat)) [] [AV.ptr (0 : Nat) (0 : Nat)]] [AO.box [AV.str o0_459]] (api_List__res r) (api_List__out r) := by
  refine W.con (by kernel_rfl) ?_
  unfold api_List_ at h
  refine W.at 0 100000 [] [0, 1, 7, 8] (c' := (fun (s_481 : Int × List UInt8) => (Cfg.mk Mode.run (headTodo Go.Proofs.Tryd.prog 47 0) (St.mk [AV.list (Ty.prod Ty.str (Ty.list Ty.str)) s_458 Bool.false, AV.func (Go.Fn.func (48 : Nat)) [] [AV.ptr (0 : Nat) (0 : Nat)], jj, jj, jj, jj, jj, AV.int IntKind.i64 (↑(List.length s_458) : Int), AV.int IntKind.i64 (Prod.fst s_481), jj, jj, jj, jj, jj, jj, jj, jj, jj, jj] [AO.box [AV.str (Prod.snd s_481)]] (1 : Nat)))) ((0 : Int), o0_459)) (by kernel_rfl) ?_
  refine W.loop (fun (s_481 : Int × List UInt8) => (Cfg.mk Mode.run (headTodo Go.Proofs.Tryd.prog 47 0) (St.mk [AV.list (Ty.prod Ty.str (Ty.list Ty.str)) s_458 Bool.false, AV.func (Go.Fn.func (48 : Nat)) [] [AV.ptr (0 : Nat) (0 : Nat)], jj, jj, jj, jj, jj, AV.int IntKind.i64 (↑(List.length s_458) : Int), AV.int IntKind.i64 (Prod.fst s_481), jj, jj, jj, jj, jj, jj, jj, jj, jj, jj] [AO.box [AV.str (Prod.snd s_481)]] (1 : Nat)))) (fun t => (Sum.elim (fun t_473 => r = (Prod.fst t_473, Prod.snd t_473)) (fun t_475 => Walk Go.Proofs.Tryd.prog 47 (Cfg.mk Mode.run ((headTodo Go.Proofs.Tryd.prog 47 0).drop 3) (St.mk [jj, jj, jj, jj, jj, jj, jj, jj, jj, jj, jj, jj, jj, jj, jj, jj, jj, jj, jj] [AO.box [AV.str t_475]] (1 : Nat))) (api_List__res r) (api_List__out r))) t) h (fun t h => ?_) (fun s_481 x477 h477 K477 => ?_)
  ·
    rcases t with t_473 | t_475
    · replace h := W.inl (h)
      refine W.elimL (?_)
      exact (Option.some.inj h).symm
    · replace h := W.inr (h)
      refine W.elimR (?_)
      exact W.retT 0 100000 h (by kernel_rfl)
  · unfold api_List__b0 at h477
    refine W.cond 2 100000 h477 (by kernel_rfl) (fun h477 => ?_) (fun h477 => ?_)
    ·
      refine W.needT 2 100000 h477 (by kernel_rfl) (fun h477 => ?_)
      refine W.bind h477 fun a_470 ha_470 h477 => ?_
      refine W.call 2 100000 (by kernel_rfl) (lists_Find_1_con ha_470) (by kernel_rfl) ?_
      refine W.cond 2 100000 h477 (by kernel_rfl) (fun h477 => ?_) (fun h477 => ?_)
      ·
        cases h477; exact W.retK 2 100000 K477 (by kernel_rfl)
      ·
        cases h477; exact W.at 2 100000 [] [0, 1, 7, 8] (by kernel_rfl) K477
    ·
      cases h477; exact W.at 2 100000 [] [] (by kernel_rfl) K477

theorem lists_Find_con {l_456 : List (List UInt8 × List (List UInt8))} {name_457 : List UInt8} {r : Int} (h : lists_Find l_456 name_457 = some r) : Con Go.Proofs.Tryd.prog 23 [AV.list (Ty.prod Ty.str (Ty.list Ty.str)) l_456 Bool.false, AV.str name_457] [] (lists_Find_res r) (lists_Find_out r) := by
  refine W.con (by kernel_rfl) ?_
  unfold lists_Find at h
  refine W.bind h fun a_482 ha_482 h => ?_
  refine W.call 0 100000 (by kernel_rfl) (api_List__con ha_482) (by kernel_rfl) ?_
  exact W.retT 0 100000 h (by kernel_rfl)

theorem cellarerref13_Find_con {l_487 : List (List UInt8 × List (List UInt8))} {name_488 : List UInt8} {r : Int} (h : cellarerref13_Find l_487 name_488 = some r) : Con Go.Proofs.Tryd.prog 29 [AV.list (Ty.prod Ty.str (Ty.list Ty.str)) l_487 Bool.false, AV.str name_488] [] (cellarerref13_Find_res r) (cellarerref13_Find_out r) := by
  refine W.con (by kernel_rfl) ?_
  unfold cellarerref13_Find at h
  refine W.at 0 100000 [] [0, 1, 5] (c' := (fun (s_499 : Int) => (Cfg.mk Mode.run (headTodo Go.Proofs.Tryd.prog 29 0) (St.mk [AV.list (Ty.prod Ty.str (Ty.list Ty.str)) l_487 Bool.false, AV.str name_488, jj, jj, jj, AV.int IntKind.i64 s_499, jj, jj, jj, jj, jj, jj, jj, jj, jj, jj, jj, jj, jj, jj] [] (0 : Nat)))) ((0 : Int))) (by kernel_rfl) ?_
  refine W.loop (fun (s_499 : Int) => (Cfg.mk Mode.run (headTodo Go.Proofs.Tryd.prog 29 0) (St.mk [AV.list (Ty.prod Ty.str (Ty.list Ty.str)) l_487 Bool.false, AV.str name_488, jj, jj, jj, AV.int IntKind.i64 s_499, jj, jj, jj, jj, jj, jj, jj, jj, jj, jj, jj, jj, jj, jj] [] (0 : Nat)))) (fun t => (Sum.elim (fun t_493 => r = (t_493)) (fun t_494 => Walk Go.Proofs.Tryd.prog 29 (Cfg.mk Mode.run ((headTodo Go.Proofs.Tryd.prog 29 0).drop 3) (St.mk [jj, jj, jj, jj, jj, jj, jj, jj, jj, jj, jj, jj, jj, jj, jj, jj, jj, jj, jj, jj] [] (0 : Nat))) (cellarerref13_Find_res r) (cellarerref13_Find_out r))) t) h (fun t h => ?_) (fun s_499 x496 h496 K496 => ?_)
  ·
    rcases t with t_493 | t_494
    · replace h := W.inl (h)
      refine W.elimL (?_)
      exact (Option.some.inj h).symm
    · replace h := W.inr (h)
      refine W.elimR (?_)
      exact W.retT 0 100000 h (by kernel_rfl)
  · unfold cellarerref13_Find_b0 at h496
    refine W.cond 2 100000 h496 (by kernel_rfl) (fun h496 => ?_) (fun h496 => ?_)
    ·
      refine W.needT 2 100000 h496 (by kernel_rfl) (fun h496 => ?_)
      refine W.cond 2 100000 h496 (by kernel_rfl) (fun h496 => ?_) (fun h496 => ?_)
      ·
        cases h496; exact W.retK 2 100000 K496 (by kernel_rfl)
      ·
        cases h496; exact W.at 2 100000 [] [0, 1, 5] (by kernel_rfl) K496
    ·
      cases h496; exact W.at 2 100000 [] [] (by kernel_rfl) K496

theorem cellarerref13_Owners_con {l_504 : List (List UInt8 × List (List UInt8))} {p_505 : List UInt8} {r : List (List UInt8)} (h : cellarerref13_Owners l_504 p_505 = some r) : Con Go.Proofs.Tryd.prog 21 [AV.list (Ty.prod Ty.str (Ty.list Ty.str)) l_504 Bool.false, AV.str p_505] [] (cellarerref13_Owners_res r) (cellarerref13_Owners_out r) := by
  refine W.con (by kernel_rfl) ?_
  unfold cellarerref13_Owners at h
  refine W.at 0 100000 [Co.own 5 (Ty.str)] [0, 1, 5, 6] (c' := (fun (s_521 : Int × List (List UInt8)) => (Cfg.mk Mode.run (headTodo Go.Proofs.Tryd.prog 21 0) (St.mk [AV.list (Ty.prod Ty.str (Ty.list Ty.str)) l_504 Bool.false, AV.str p_505, jj, jj, jj, AV.view (0 : Nat) (0 : Nat) Option.none, AV.int IntKind.i64 (Prod.fst s_521), jj, jj, jj, jj, jj, jj, jj, jj, jj, jj, jj, jj, jj, jj, jj, jj, jj, jj, jj, jj, jj, jj] [AO.row Ty.str (Prod.snd s_521)] (0 : Nat)))) ((0 : Int), [])) (by kernel_rfl) ?_
  refine W.loop (fun (s_521 : Int × List (List UInt8)) => (Cfg.mk Mode.run (headTodo Go.Proofs.Tryd.prog 21 0) (St.mk [AV.list (Ty.prod Ty.str (Ty.list Ty.str)) l_504 Bool.false, AV.str p_505, jj, jj, jj, AV.view (0 : Nat) (0 : Nat) Option.none, AV.int IntKind.i64 (Prod.fst s_521), jj, jj, jj, jj, jj, jj, jj, jj, jj, jj, jj, jj, jj, jj, jj, jj, jj, jj, jj, jj, jj, jj] [AO.row Ty.str (Prod.snd s_521)] (0 : Nat)))) (fun t_516 => Walk Go.Proofs.Tryd.prog 21 (Cfg.mk Mode.run ((headTodo Go.Proofs.Tryd.prog 21 0).drop 3) (St.mk [jj, jj, jj, jj, jj, AV.view (0 : Nat) (0 : Nat) Option.none, jj, jj, jj, jj, jj, jj, jj, jj, jj, jj, jj, jj, jj, jj, jj, jj, jj, jj, jj, jj, jj, jj, jj] [AO.row Ty.str t_516] (0 : Nat))) (cellarerref13_Owners_res r) (cellarerref13_Owners_out r)) h (fun t_516 h => ?_) (fun s_521 x518 h518 K518 => ?_)
  ·
    exact W.retT 0 100000 h (by kernel_rfl)
  · unfold cellarerref13_Owners_b0 at h518
    refine W.cond 2 100000 h518 (by kernel_rfl) (fun h518 => ?_) (fun h518 => ?_)
    ·
      refine W.needT 2 100000 h518 (by kernel_rfl) (fun h518 => ?_)
      refine W.bind h518 fun a_514 ha_514 h518 => ?_
      refine W.call 2 100000 (by kernel_rfl) (cellarerref02_Has_con ha_514) (by kernel_rfl) ?_
      refine W.cond 2 100000 h518 (by kernel_rfl) (fun h518 => ?_) (fun h518 => ?_)
      ·
        refine W.needT 2 100000 h518 (by kernel_rfl) (fun h518 => ?_)
        refine W.needT 2 100000 h518 (by kernel_rfl) (fun h518 => ?_)
        cases h518; exact W.at 2 100000 [Co.own 5 (Ty.str)] [0, 1, 5, 6] (by kernel_rfl) K518
      ·
        cases h518; exact W.at 2 100000 [Co.own 5 (Ty.str)] [0, 1, 5, 6] (by kernel_rfl) K518
    ·
      cases h518; exact W.at 2 100000 [] [5] (by kernel_rfl) K518

theorem api_List__40_con {s_529 : List (List UInt8 × List (List UInt8))} {r : List (List UInt8 × List (List UInt8))} (h : api_List__40 s_529 = some r) : Con Go.Proofs.Tryd.prog 40 [AV.list (Ty.prod Ty.str (Ty.list Ty.str)) s_529 Bool.false] [] (api_List__40_res r) (api_List__40_out r) := by
  refine W.con (by kernel_rfl) ?_
  unfold api_List__40 at h
  refine W.mayb 0 100000 h (by kernel_rfl) (fun h => ?_) (fun h => ?_)
  ·
    exact W.retT 0 100000 h (by kernel_rfl)
  ·
    refine W.needT 0 100000 h (by kernel_rfl) (fun h => ?_)
    exact W.retT 0 100000 h (by kernel_rfl)

theorem slices_Clone___string_string__con {s_533 : List (List UInt8)} {r : List (List UInt8)} (h : slices_Clone___string_string_ s_533 = some r) : Con Go.Proofs.Tryd.prog 42 [AV.list Ty.str s_533 Bool.false] [] (slices_Clone___string_string__res r) (slices_Clone___string_string__out r) := by
  refine W.con (by kernel_rfl) ?_
  unfold slices_Clone___string_string_ at h
  refine W.mayb 0 100000 h (by kernel_rfl) (fun h => ?_) (fun h => ?_)
  ·
    exact W.retT 0 100000 h (by kernel_rfl)
  ·
    refine W.needT 0 100000 h (by kernel_rfl) (fun h => ?_)
    exact W.retT 0 100000 h (by kernel_rfl)

theorem slices_Index___string_string__con {s_549 : List (List UInt8)} {v_550 : List UInt8} {r : Int} (h : slices_Index___string_string_ s_549 v_550 = some r) : Con Go.Proofs.Tryd.prog 60 [AV.list Ty.str s_549 Bool.false, AV.str v_550] [] (slices_Index___string_string__res r) (slices_Index___string_string__out r) := by
  refine W.con (by kernel_rfl) ?_
  unfold slices_Index___string_string_ at h
  refine W.at 0 100000 [] [0, 1, 7, 8] (c' := (fun (s_562 : Int) => (Cfg.mk Mode.run (headTodo Go.Proofs.Tryd.prog 60 0) (St.mk [AV.list Ty.str s_549 Bool.false, AV.str v_550, jj, jj, jj, jj, jj, AV.int IntKind.i64 (↑(List.length s_549) : Int), AV.int IntKind.i64 s_562, jj, jj, jj, jj, jj, jj, jj, jj, jj, jj] [] (0 : Nat)))) ((0 : Int))) (by kernel_rfl) ?_
  refine W.loop (fun (s_562 : Int) => (Cfg.mk Mode.run (headTodo Go.Proofs.Tryd.prog 60 0) (St.mk [AV.list Ty.str s_549 Bool.false, AV.str v_550, jj, jj, jj, jj, jj, AV.int IntKind.i64 (↑(List.length s_549) : Int), AV.int IntKind.i64 s_562, jj, jj, jj, jj, jj, jj, jj, jj, jj, jj] [] (0 : Nat)))) (fun t => (Sum.elim (fun t_556 => r = (t_556)) (fun t_557 => Walk Go.Proofs.Tryd.prog 60 (Cfg.mk Mode.run ((headTodo Go.Proofs.Tryd.prog 60 0).drop 3) (St.mk [jj, jj, jj, jj, jj, jj, jj, jj, jj, jj, jj, jj, jj, jj, jj, jj, jj, jj, jj] [] (0 : Nat))) (slices_Index___string_string__res r) (slices_Index___string_string__out r))) t) h (fun t h => ?_) (fun s_562 x559 h559 K559 => ?_)
  ·
    rcases t with t_556 | t_557
    · replace h := W.inl (h)
      refine W.elimL (?_)
      exact (Option.some.inj h).symm
    · replace h := W.inr (h)
      refine W.elimR (?_)
      exact W.retT 0 100000 h (by kernel_rfl)
  · unfold slices_Index___string_string__b0 at h559
    refine W.cond 2 100000 h559 (by kernel_rfl) (fun h559 => ?_) (fun h559 => ?_)
    ·
      refine W.needT 2 100000 h559 (by kernel_rfl) (fun h559 => ?_)
      refine W.cond 2 100000 h559 (by kernel_rfl) (fun h559 => ?_) (fun h559 => ?_)
      ·
        cases h559; exact W.retK 2 100000 K559 (by kernel_rfl)
      ·
        cases h559; exact W.at 2 100000 [] [0, 1, 7, 8] (by kernel_rfl) K559
    ·
      cases h559; exact W.at 2 100000 [] [] (by kernel_rfl) K559

theorem slices_Contains___string_string__con {s_547 : List (List UInt8)} {v_548 : List UInt8} {r : Bool} (h : slices_Contains___string_string_ s_547 v_548 = some r) : Con Go.Proofs.Tryd.prog 44 [AV.list Ty.str s_547 Bool.false, AV.str v_548] [] (slices_Contains___string_string__res r) (slices_Contains___string_string__out r) := by
  refine W.con (by kernel_rfl) ?_
  unfold slices_Contains___string_string_ at h
  refine W.bind h fun a_563 ha_563 h => ?_
  refine W.call 0 100000 (by kernel_rfl) (slices_Index___string_string__con ha_563) (by kernel_rfl) ?_
  exact W.retT 0 100000 h (by kernel_rfl)

theorem lists_Lose_1_con {p_545 : List UInt8} {o0_546 : List (List UInt8)} {r : Bool × List (List UInt8)} (h : lists_Lose_1 p_545 o0_546 = some r) : Con Go.Proofs.Tryd.prog 43 [AV.str p_545, AV.ptr (0 : Nat) (0 : Nat)] [AO.box [AV.list Ty.str o0_546 Bool.false]] (lists_Lose_1_res r) (lists_Lose_1_out r) := by
  refine W.con (by kernel_rfl) ?_
  unfold lists_Lose_1 at h
  refine W.bind h fun a_566 ha_566 h => ?_
  refine W.call 0 100000 (by kernel_rfl) (slices_Contains___string_string__con ha_566) (by kernel_rfl) ?_
  exact W.retT 0 100000 h (by kernel_rfl)

theorem slices_IndexFunc___string_string__con {s_539 : List (List UInt8)} {o0_540 : List (List UInt8)} {r : Int × List (List UInt8)} (h : slices_IndexFunc___string_string_ s_539 o0_540 = some r) : Con Go.Proofs.Tryd.prog 59 [AV.list Ty.str s_539 Bool.false, AV.func (Go.Fn.func (43 : Nat)) [] [AV.ptr (0 : Nat) (0 : Nat)]] [AO.box [AV.list Ty.str o0_540 Bool.false]] (slices_IndexFunc___string_string__res r) (slices_IndexFunc___string_string__out r) := by
  refine W.con (by kernel_rfl) ?_
  unfold slices_IndexFunc___string_string_ at h
  refine W.at 0 100000 [] [0, 1, 7, 8] (c' := (fun (s_581 : Int × List (List UInt8)) => (Cfg.mk Mode.run (headTodo Go.Proofs.Tryd.prog 59 0) (St.mk [AV.list Ty.str s_539 Bool.false, AV.func (Go.Fn.func (43 : Nat)) [] [AV.ptr (0 : Nat) (0 : Nat)], jj, jj, jj, jj, jj, AV.int IntKind.i64 (↑(List.length s_539) : Int), AV.int IntKind.i64 (Prod.fst s_581), jj, jj, jj, jj, jj, jj, jj, jj, jj, jj] [AO.box [AV.list Ty.str (Prod.snd s_581) Bool.false]] (1 : Nat)))) ((0 : Int), o0_540)) (by kernel_rfl) ?_
  refine W.loop (fun (s_581 : Int × List (List UInt8)) => (Cfg.mk Mode.run (headTodo Go.Proofs.Tryd.prog 59 0) (St.mk [AV.list Ty.str s_539 Bool.false, AV.func (Go.Fn.func (43 : Nat)) [] [AV.ptr (0 : Nat) (0 : Nat)], jj, jj, jj, jj, jj, AV.int IntKind.i64 (↑(List.length s_539) : Int), AV.int IntKind.i64 (Prod.fst s_581), jj, jj, jj, jj, jj, jj, jj, jj, jj, jj] [AO.box [AV.list Ty.str (Prod.snd s_581) Bool.false]] (1 : Nat)))) (fun t => (Sum.elim (fun t_573 => r = (Prod.fst t_573, Prod.snd t_573)) (fun t_575 => Walk Go.Proofs.Tryd.prog 59 (Cfg.mk Mode.run ((headTodo Go.Proofs.Tryd.prog 59 0).drop 3) (St.mk [jj, jj, jj, jj, jj, jj, jj, jj, jj, jj, jj, jj, jj, jj, jj, jj, jj, jj, jj] [AO.box [AV.list Ty.str t_575 Bool.false]] (1 : Nat))) (slices_IndexFunc___string_string__res r) (slices_IndexFunc___string_string__out r))) t) h (fun t h => ?_) (fun s_581 x577 h577 K577 => ?_)
  ·
    rcases t with t_573 | t_575
    · replace h := W.inl (h)
      refine W.elimL (?_)
      exact (Option.some.inj h).symm
    · replace h := W.inr (h)
      refine W.elimR (?_)
      exact W.retT 0 100000 h (by kernel_rfl)
  · unfold slices_IndexFunc___string_string__b0 at h577
    refine W.cond 2 100000 h577 (by kernel_rfl) (fun h577 => ?_) (fun h577 => ?_)
    ·
      refine W.needT 2 100000 h577 (by kernel_rfl) (fun h577 => ?_)
      refine W.bind h577 fun a_570 ha_570 h577 => ?_
      refine W.call 2 100000 (by kernel_rfl) (lists_Lose_1_con ha_570) (by kernel_rfl) ?_
      refine W.cond 2 100000 h577 (by kernel_rfl) (fun h577 => ?_) (fun h577 => ?_)
      ·
        cases h577; exact W.retK 2 100000 K577 (by kernel_rfl)
      ·
        cases h577; exact W.at 2 100000 [] [0, 1, 7, 8] (by kernel_rfl) K577
    ·
      cases h577; exact W.at 2 100000 [] [] (by kernel_rfl) K577

theorem slices_DeleteFunc___string_string__con {o0_588 : List (List UInt8)} {o1_589 : List (List UInt8)} {r : List (List UInt8) × List (List UInt8)} (h : slices_DeleteFunc___string_string_ o0_588 o1_589 = some r) : Con Go.Proofs.Tryd.prog 41 [AV.view (1 : Nat) (0 : Nat) Option.none, AV.func (Go.Fn.func (43 : Nat)) [] [AV.ptr (0 : Nat) (0 : Nat)]] [AO.box [AV.list Ty.str o0_588 Bool.false], AO.row Ty.str o1_589] (slices_DeleteFunc___string_string__res r) (slices_DeleteFunc___string_string__out r) := by
  refine W.con (by kernel_rfl) ?_
  unfold slices_DeleteFunc___string_string_ at h
  refine W.bind h fun a_590 ha_590 h => ?_
  refine W.call 0 100000 (by kernel_rfl) (slices_IndexFunc___string_string__con ha_590) (by kernel_rfl) ?_
  refine W.cond 0 100000 h (by kernel_rfl) (fun h => ?_) (fun h => ?_)
  ·
    exact W.retT 0 100000 h (by kernel_rfl)
  ·
    refine W.at 0 100000 [] [0, 1, 5, 6] (c' := (fun (s_603 : Int × List (List UInt8)) => (Cfg.mk Mode.run (headTodo Go.Proofs.Tryd.prog 41 0) (St.mk [AV.list Ty.str (List.drop (0 : Nat) o1_589) Bool.false, AV.func (Go.Fn.func (43 : Nat)) [] [AV.ptr (0 : Nat) (0 : Nat)], jj, jj, jj, AV.int IntKind.i64 (Prod.fst a_590), AV.int IntKind.i64 (Prod.fst s_603), jj, jj, jj, jj, jj, jj, jj, jj, jj, jj, jj, jj, jj, jj, jj, jj, jj, jj, jj, jj, jj, jj, jj, jj, jj, jj, jj, jj, jj, jj, jj, jj, jj, jj, jj] [AO.box [AV.list Ty.str (Prod.snd s_603) Bool.false], AO.dead] (2 : Nat)))) (IntKind.wrap IntKind.i64 (Prod.fst a_590 + (1 : Int)), Prod.snd a_590)) (by kernel_rfl) ?_
    refine W.loop (fun (s_603 : Int × List (List UInt8)) => (Cfg.mk Mode.run (headTodo Go.Proofs.Tryd.prog 41 0) (St.mk [AV.list Ty.str (List.drop (0 : Nat) o1_589) Bool.false, AV.func (Go.Fn.func (43 : Nat)) [] [AV.ptr (0 : Nat) (0 : Nat)], jj, jj, jj, AV.int IntKind.i64 (Prod.fst a_590), AV.int IntKind.i64 (Prod.fst s_603), jj, jj, jj, jj, jj, jj, jj, jj, jj, jj, jj, jj, jj, jj, jj, jj, jj, jj, jj, jj, jj, jj, jj, jj, jj, jj, jj, jj, jj, jj, jj, jj, jj, jj, jj] [AO.box [AV.list Ty.str (Prod.snd s_603) Bool.false], AO.dead] (2 : Nat)))) (fun t_597 => Walk Go.Proofs.Tryd.prog 41 (Cfg.mk Mode.run ((headTodo Go.Proofs.Tryd.prog 41 0).drop 3) (St.mk [AV.list Ty.str (List.drop (0 : Nat) o1_589) Bool.false, jj, jj, jj, jj, AV.int IntKind.i64 (Prod.fst a_590), jj, jj, jj, jj, jj, jj, jj, jj, jj, jj, jj, jj, jj, jj, jj, jj, jj, jj, jj, jj, jj, jj, jj, jj, jj, jj, jj, jj, jj, jj, jj, jj, jj, jj, jj, jj] [AO.box [AV.list Ty.str t_597 Bool.false], AO.dead] (2 : Nat))) (slices_DeleteFunc___string_string__res r) (slices_DeleteFunc___string_string__out r)) h (fun t_597 h => ?_) (fun s_603 x599 h599 K599 => ?_)
    ·
      refine W.needT 0 100000 h (by kernel_rfl) (fun h => ?_)
      exact nomatch h
    · unfold slices_DeleteFunc___string_string__b0 at h599
      refine W.cond 2 100000 h599 (by kernel_rfl) (fun h599 => ?_) (fun h599 => ?_)
      ·
        refine W.needT 2 100000 h599 (by kernel_rfl) (fun h599 => ?_)
        refine W.bind h599 fun a_595 ha_595 h599 => ?_
        refine W.call 2 100000 (by kernel_rfl) (lists_Lose_1_con ha_595) (by kernel_rfl) ?_
        refine W.cond 2 100000 h599 (by kernel_rfl) (fun h599 => ?_) (fun h599 => ?_)
        ·
          refine W.needT 2 100000 h599 (by kernel_rfl) (fun h599 => ?_)
          exact nomatch h599
        ·
          cases h599; exact W.at 2 100000 [] [0, 1, 5, 6] (by kernel_rfl) K599
      ·
        cases h599; exact W.at 2 100000 [] [0, 5] (by kernel_rfl) K599

theorem lists_Lose_con {l_525 : List (List UInt8 × List (List UInt8))} {name_526 : List UInt8} {paths_527 : List (List UInt8)} {r : List (List UInt8 × List (List UInt8))} (h : lists_Lose l_525 name_526 paths_527 = some r) : Con Go.Proofs.Tryd.prog 18 [AV.list (Ty.prod Ty.str (Ty.list Ty.str)) l_525 Bool.false, AV.str name_526, AV.list Ty.str paths_527 Bool.false] [] (lists_Lose_res r) (lists_Lose_out r) := by
  refine W.con (by kernel_rfl) ?_
  unfold lists_Lose at h
  refine W.bind h fun a_528 ha_528 h => ?_
  refine W.call 0 100000 (by kernel_rfl) (lists_Find_con ha_528) (by kernel_rfl) ?_
  refine W.bind h fun a_532 ha_532 h => ?_
  refine W.call 0 100000 (by kernel_rfl) (api_List__40_con ha_532) (by kernel_rfl) ?_
  refine W.cond 0 100000 h (by kernel_rfl) (fun h => ?_) (fun h => ?_)
  ·
    exact W.retT 0 100000 h (by kernel_rfl)
  ·
    refine W.needT 0 100000 h (by kernel_rfl) (fun h => ?_)
    refine W.bind h fun a_536 ha_536 h => ?_
    refine W.call 0 100000 (by kernel_rfl) (slices_Clone___string_string__con ha_536) (by kernel_rfl) ?_
    refine W.bind h fun a_604 ha_604 h => ?_
    refine W.call 0 100000 (by kernel_rfl) (slices_DeleteFunc___string_string__con ha_604) (by kernel_rfl) ?_
    refine W.needT 0 100000 h (by kernel_rfl) (fun h => ?_)
    refine W.needT 0 100000 h (by kernel_rfl) (fun h => ?_)
    exact W.retT 0 100000 h (by kernel_rfl)

theorem cellarerref13_Minus_con {l_609 : List (List UInt8)} {others_610 : List (List UInt8)} {r : List (List UInt8)} (h : cellarerref13_Minus l_609 others_610 = some r) : Con Go.Proofs.Tryd.prog 24 [AV.list Ty.str l_609 Bool.false, AV.list Ty.str others_610 Bool.false] [] (cellarerref13_Minus_res r) (cellarerref13_Minus_out r) := by
  refine W.con (by kernel_rfl) ?_
  unfold cellarerref13_Minus at h
  refine W.at 0 100000 [Co.own 5 (Ty.str)] [0, 1, 5, 6] (c' := (fun (s_626 : Int × List (List UInt8)) => (Cfg.mk Mode.run (headTodo Go.Proofs.Tryd.prog 24 0) (St.mk [AV.list Ty.str l_609 Bool.false, AV.list Ty.str others_610 Bool.false, jj, jj, jj, AV.view (0 : Nat) (0 : Nat) Option.none, AV.int IntKind.i64 (Prod.fst s_626), jj, jj, jj, jj, jj, jj, jj, jj, jj, jj, jj, jj, jj, jj, jj, jj, jj, jj, jj, jj, jj] [AO.row Ty.str (Prod.snd s_626)] (0 : Nat)))) ((0 : Int), [])) (by kernel_rfl) ?_
  refine W.loop (fun (s_626 : Int × List (List UInt8)) => (Cfg.mk Mode.run (headTodo Go.Proofs.Tryd.prog 24 0) (St.mk [AV.list Ty.str l_609 Bool.false, AV.list Ty.str others_610 Bool.false, jj, jj, jj, AV.view (0 : Nat) (0 : Nat) Option.none, AV.int IntKind.i64 (Prod.fst s_626), jj, jj, jj, jj, jj, jj, jj, jj, jj, jj, jj, jj, jj, jj, jj, jj, jj, jj, jj, jj, jj] [AO.row Ty.str (Prod.snd s_626)] (0 : Nat)))) (fun t_621 => Walk Go.Proofs.Tryd.prog 24 (Cfg.mk Mode.run ((headTodo Go.Proofs.Tryd.prog 24 0).drop 3) (St.mk [jj, jj, jj, jj, jj, AV.view (0 : Nat) (0 : Nat) Option.none, jj, jj, jj, jj, jj, jj, jj, jj, jj, jj, jj, jj, jj, jj, jj, jj, jj, jj, jj, jj, jj, jj] [AO.row Ty.str t_621] (0 : Nat))) (cellarerref13_Minus_res r) (cellarerref13_Minus_out r)) h (fun t_621 h => ?_) (fun s_626 x623 h623 K623 => ?_)
  ·
    exact W.retT 0 100000 h (by kernel_rfl)
  · unfold cellarerref13_Minus_b0 at h623
    refine W.cond 2 100000 h623 (by kernel_rfl) (fun h623 => ?_) (fun h623 => ?_)
    ·
      refine W.needT 2 100000 h623 (by kernel_rfl) (fun h623 => ?_)
      refine W.bind h623 fun a_619 ha_619 h623 => ?_
      refine W.call 2 100000 (by kernel_rfl) (cellarerref02_Has_con ha_619) (by kernel_rfl) ?_
      refine W.cond 2 100000 h623 (by kernel_rfl) (fun h623 => ?_) (fun h623 => ?_)
      ·
        refine W.needT 2 100000 h623 (by kernel_rfl) (fun h623 => ?_)
        refine W.needT 2 100000 h623 (by kernel_rfl) (fun h623 => ?_)
        cases h623; exact W.at 2 100000 [Co.own 5 (Ty.str)] [0, 1, 5, 6] (by kernel_rfl) K623
      ·
        cases h623; exact W.at 2 100000 [Co.own 5 (Ty.str)] [0, 1, 5, 6] (by kernel_rfl) K623
    ·
      cases h623; exact W.at 2 100000 [] [5] (by kernel_rfl) K623

theorem cellarerref13_Lose_con {l_630 : List (List UInt8 × List (List UInt8))} {name_631 : List UInt8} {paths_632 : List (List UInt8)} {r : List (List UInt8 × List (List UInt8))} (h : cellarerref13_Lose l_630 name_631 paths_632 = some r) : Con Go.Proofs.Tryd.prog 22 [AV.list (Ty.prod Ty.str (Ty.list Ty.str)) l_630 Bool.false, AV.str name_631, AV.list Ty.str paths_632 Bool.false] [] (cellarerref13_Lose_res r) (cellarerref13_Lose_out r) := by
  refine W.con (by kernel_rfl) ?_
  unfold cellarerref13_Lose at h
  refine W.bind h fun a_633 ha_633 h => ?_
  refine W.call 0 100000 (by kernel_rfl) (cellarerref13_Find_con ha_633) (by kernel_rfl) ?_
  refine W.at 0 100000 [Co.own 7 (Ty.prod Ty.str (Ty.list Ty.str))] [0, 1, 2, 7, 8, 9] (c' := (fun (s_661 : Int × List (List UInt8 × List (List UInt8))) => (Cfg.mk Mode.run (headTodo Go.Proofs.Tryd.prog 22 0) (St.mk [AV.list (Ty.prod Ty.str (Ty.list Ty.str)) l_630 Bool.false, AV.str name_631, AV.list Ty.str paths_632 Bool.false, jj, jj, jj, jj, AV.view (0 : Nat) (0 : Nat) Option.none, AV.int IntKind.i64 a_633, AV.int IntKind.i64 (Prod.fst s_661), jj, jj, jj, jj, jj, jj, jj, jj, jj, jj, jj, jj, jj, jj, jj, jj, jj, jj, jj, jj, jj, jj, jj, jj, jj, jj, jj, jj] [AO.row (Ty.prod Ty.str (Ty.list Ty.str)) (Prod.snd s_661)] (0 : Nat)))) ((0 : Int), [])) (by kernel_rfl) ?_
  refine W.loop (fun (s_661 : Int × List (List UInt8 × List (List UInt8))) => (Cfg.mk Mode.run (headTodo Go.Proofs.Tryd.prog 22 0) (St.mk [AV.list (Ty.prod Ty.str (Ty.list Ty.str)) l_630 Bool.false, AV.str name_631, AV.list Ty.str paths_632 Bool.false, jj, jj, jj, jj, AV.view (0 : Nat) (0 : Nat) Option.none, AV.int IntKind.i64 a_633, AV.int IntKind.i64 (Prod.fst s_661), jj, jj, jj, jj, jj, jj, jj, jj, jj, jj, jj, jj, jj, jj, jj, jj, jj, jj, jj, jj, jj, jj, jj, jj, jj, jj, jj, jj] [AO.row (Ty.prod Ty.str (Ty.list Ty.str)) (Prod.snd s_661)] (0 : Nat)))) (fun t_656 => Walk Go.Proofs.Tryd.prog 22 (Cfg.mk Mode.run ((headTodo Go.Proofs.Tryd.prog 22 0).drop 3) (St.mk [jj, jj, jj, jj, jj, jj, jj, AV.view (0 : Nat) (0 : Nat) Option.none, jj, jj, jj, jj, jj, jj, jj, jj, jj, jj, jj, jj, jj, jj, jj, jj, jj, jj, jj, jj, jj, jj, jj, jj, jj, jj, jj, jj, jj, jj] [AO.row (Ty.prod Ty.str (Ty.list Ty.str)) t_656] (0 : Nat))) (cellarerref13_Lose_res r) (cellarerref13_Lose_out r)) h (fun t_656 h => ?_) (fun s_661 x658 h658 K658 => ?_)
  ·
    exact W.retT 0 100000 h (by kernel_rfl)
  · unfold cellarerref13_Lose_b0 at h658
    refine W.cond 2 100000 h658 (by kernel_rfl) (fun h658 => ?_) (fun h658 => ?_)
    ·
      refine W.needT 2 100000 h658 (by kernel_rfl) (fun h658 => ?_)
      refine W.join (fun t => (Sum.elim (fun t_652 => Walk Go.Proofs.Tryd.prog 22 (Cfg.mk Mode.run (seqTodo Go.Proofs.Tryd.prog 22 9) (St.mk [AV.list (Ty.prod Ty.str (Ty.list Ty.str)) l_630 Bool.false, AV.str name_631, AV.list Ty.str paths_632 Bool.false, jj, jj, jj, jj, AV.view (0 : Nat) (0 : Nat) Option.none, AV.int IntKind.i64 a_633, AV.int IntKind.i64 (Prod.fst s_661), AV.ptr (1 : Nat) (0 : Nat), jj, jj, jj, jj, jj, jj, jj, jj, jj, jj, jj, jj, jj, jj, jj, jj, jj, jj, jj, jj, jj, jj, jj, jj, jj, jj, jj] [AO.row (Ty.prod Ty.str (Ty.list Ty.str)) (Prod.snd s_661), AO.box [AV.str name_631, AV.view (2 : Nat) (0 : Nat) Option.none], AO.row Ty.str t_652] (0 : Nat))) (cellarerref13_Lose_res r) (cellarerref13_Lose_out r)) (fun t_653 => Walk Go.Proofs.Tryd.prog 22 (Cfg.mk Mode.run (seqTodo Go.Proofs.Tryd.prog 22 9) (St.mk [AV.list (Ty.prod Ty.str (Ty.list Ty.str)) l_630 Bool.false, AV.str name_631, AV.list Ty.str paths_632 Bool.false, jj, jj, jj, jj, AV.view (0 : Nat) (0 : Nat) Option.none, AV.int IntKind.i64 a_633, AV.int IntKind.i64 (Prod.fst s_661), AV.ptr (1 : Nat) (0 : Nat), jj, jj, jj, jj, jj, jj, jj, jj, jj, jj, jj, jj, jj, jj, jj, jj, jj, jj, jj, jj, jj, jj, jj, jj, jj, jj, jj] [AO.row (Ty.prod Ty.str (Ty.list Ty.str)) (Prod.snd s_661), AO.box [AV.str (Prod.fst (List.getD l_630 (Int.toNat (Prod.fst s_661)) ([], []))), AV.list Ty.str (Prod.snd (List.getD l_630 (Int.toNat (Prod.fst s_661)) ([], []))) Bool.false]] (0 : Nat))) (cellarerref13_Lose_res r) (cellarerref13_Lose_out r))) t) h658 (fun t h658 => ?_) (fun t655 h655 K655 => ?_)
      ·
        rcases t with t_652 | t_653
        · replace h658 := W.inl (h658)
          refine W.elimL (?_)
          refine W.needT 2 100000 h658 (by kernel_rfl) (fun h658 => ?_)
          cases h658; exact W.at 2 100000 [Co.own 7 (Ty.prod Ty.str (Ty.list Ty.str))] [0, 1, 2, 7, 8, 9] (by kernel_rfl) K658
        · replace h658 := W.inr (h658)
          refine W.elimR (?_)
          refine W.needT 2 100000 h658 (by kernel_rfl) (fun h658 => ?_)
          cases h658; exact W.at 2 100000 [Co.own 7 (Ty.prod Ty.str (Ty.list Ty.str))] [0, 1, 2, 7, 8, 9] (by kernel_rfl) K658
      · refine W.next 2 5 (by kernel_rfl) ?_
        refine W.cond 6 100000 h655 (by kernel_rfl) (fun h655 => ?_) (fun h655 => ?_)
        ·
          refine W.bind h655 fun a_650 ha_650 h655 => ?_
          refine W.call 6 100000 (by kernel_rfl) (cellarerref13_Minus_con ha_650) (by kernel_rfl) ?_
          cases h655; exact W.at 6 100000 [] [0, 1, 2, 7, 8, 9, 10] (by kernel_rfl) K655
        ·
          cases h655; exact W.at 6 100000 [] [0, 1, 2, 7, 8, 9, 10] (by kernel_rfl) K655
    ·
      cases h658; exact W.at 2 100000 [] [7] (by kernel_rfl) K658

theorem lists_Put_1_con {y_677 : List UInt8} {y_678 : List (List UInt8)} {o0_679 : List UInt8} {o0_680 : List (List UInt8)} {r : Bool × List UInt8 × List (List UInt8)} (h : lists_Put_1 y_677 y_678 o0_679 o0_680 = some r) : Con Go.Proofs.Tryd.prog 49 [AV.agg [AV.str y_677, AV.list Ty.str y_678 Bool.false], AV.ptr (0 : Nat) (0 : Nat)] [AO.box [AV.str o0_679, AV.list Ty.str o0_680 Bool.false]] (lists_Put_1_res r) (lists_Put_1_out r) := by
  refine W.con (by kernel_rfl) ?_
  unfold lists_Put_1 at h
  exact W.retT 0 100000 h (by kernel_rfl)

theorem api_List__v1_con {s_669 : List (List UInt8 × List (List UInt8))} {o0_670 : List UInt8} {o0_671 : List (List UInt8)} {r : Int × List UInt8 × List (List UInt8)} (h : api_List__v1 s_669 o0_670 o0_671 = some r) : Con Go.Proofs.Tryd.prog 47 [AV.list (Ty.prod Ty.str (Ty.list Ty.str)) s_669 Bool.false, AV.func (Go.Fn.func (49 : Nat)) [] [AV.ptr (0 : Nat) (0 : Nat)]] [AO.box [AV.str o0_670, AV.list Ty.str o0_671 Bool.false]] (api_List__v1_res r) (api_List__v1_out r) := by
  refine W.con (by kernel_rfl) ?_
  unfold api_List__v1 at h
  refine W.at 0 100000 [] [0, 1, 7, 8] (c' := (fun (s_699 : Int × List UInt8 × List (List UInt8)) => (Cfg.mk Mode.run (headTodo Go.Proofs.Tryd.prog 47 0) (St.mk [AV.list (Ty.prod Ty.str (Ty.list Ty.str)) s_669 Bool.false, AV.func (Go.Fn.func (49 : Nat)) [] [AV.ptr (0 : Nat) (0 : Nat)], jj, jj, jj, jj, jj, AV.int IntKind.i64 (↑(List.length s_669) : Int), AV.int IntKind.i64 (Prod.fst s_699), jj, jj, jj, jj, jj, jj, jj, jj, jj, jj] [AO.box [AV.str (Prod.fst (Prod.snd s_699)), AV.list Ty.str (Prod.snd (Prod.snd s_699)) Bool.false]] (1 : Nat)))) ((0 : Int), o0_670, o0_671)) (by kernel_rfl) ?_
  refine W.loop (fun (s_699 : Int × List UInt8 × List (List UInt8)) => (Cfg.mk Mode.run (headTodo Go.Proofs.Tryd.prog 47 0) (St.mk [AV.list (Ty.prod Ty.str (Ty.list Ty.str)) s_669 Bool.false, AV.func (Go.Fn.func (49 : Nat)) [] [AV.ptr (0 : Nat) (0 : Nat)], jj, jj, jj, jj, jj, AV.int IntKind.i64 (↑(List.length s_669) : Int), AV.int IntKind.i64 (Prod.fst s_699), jj, jj, jj, jj, jj, jj, jj, jj, jj, jj] [AO.box [AV.str (Prod.fst (Prod.snd s_699)), AV.list Ty.str (Prod.snd (Prod.snd s_699)) Bool.false]] (1 : Nat)))) (fun t => (Sum.elim (fun t_689 => r = (Prod.fst t_689, Prod.fst (Prod.snd t_689), Prod.snd (Prod.snd t_689))) (fun t_692 => Walk Go.Proofs.Tryd.prog 47 (Cfg.mk Mode.run ((headTodo Go.Proofs.Tryd.prog 47 0).drop 3) (St.mk [jj, jj, jj, jj, jj, jj, jj, jj, jj, jj, jj, jj, jj, jj, jj, jj, jj, jj, jj] [AO.box [AV.str (Prod.fst t_692), AV.list Ty.str (Prod.snd t_692) Bool.false]] (1 : Nat))) (api_List__v1_res r) (api_List__v1_out r))) t) h (fun t h => ?_) (fun s_699 x694 h694 K694 => ?_)
  ·
    rcases t with t_689 | t_692
    · replace h := W.inl (h)
      refine W.elimL (?_)
      exact (Option.some.inj h).symm
    · replace h := W.inr (h)
      refine W.elimR (?_)
      exact W.retT 0 100000 h (by kernel_rfl)
  · unfold api_List__v1_b0 at h694
    refine W.cond 2 100000 h694 (by kernel_rfl) (fun h694 => ?_) (fun h694 => ?_)
    ·
      refine W.needT 2 100000 h694 (by kernel_rfl) (fun h694 => ?_)
      refine W.bind h694 fun a_685 ha_685 h694 => ?_
      refine W.call 2 100000 (by kernel_rfl) (lists_Put_1_con ha_685) (by kernel_rfl) ?_
      refine W.cond 2 100000 h694 (by kernel_rfl) (fun h694 => ?_) (fun h694 => ?_)
      ·
        cases h694; exact W.retK 2 100000 K694 (by kernel_rfl)
      ·
        cases h694; exact W.at 2 100000 [] [0, 1, 7, 8] (by kernel_rfl) K694
    ·
      cases h694; exact W.at 2 100000 [] [] (by kernel_rfl) K694

theorem lists_Put_con {l_664 : List (List UInt8 × List (List UInt8))} {x_665 : List UInt8} {x_666 : List (List UInt8)} {r : List (List UInt8 × List (List UInt8))} (h : lists_Put l_664 x_665 x_666 = some r) : Con Go.Proofs.Tryd.prog 25 [AV.list (Ty.prod Ty.str (Ty.list Ty.str)) l_664 Bool.false, AV.agg [AV.str x_665, AV.list Ty.str x_666 Bool.false]] [] (lists_Put_res r) (lists_Put_out r) := by
  refine W.con (by kernel_rfl) ?_
  unfold lists_Put at h
  refine W.bind h fun a_667 ha_667 h => ?_
  refine W.call 0 100000 (by kernel_rfl) (api_List__40_con ha_667) (by kernel_rfl) ?_
  refine W.bind h fun a_668 ha_668 h => ?_
  refine W.call 0 100000 (by kernel_rfl) (lists_Find_con ha_668) (by kernel_rfl) ?_
  refine W.cond 0 100000 h (by kernel_rfl) (fun h => ?_) (fun h => ?_)
  ·
    refine W.needT 0 100000 h (by kernel_rfl) (fun h => ?_)
    refine W.needT 0 100000 h (by kernel_rfl) (fun h => ?_)
    exact W.retT 0 100000 h (by kernel_rfl)
  ·
    refine W.bind h fun a_700 ha_700 h => ?_
    refine W.call 0 100000 (by kernel_rfl) (api_List__v1_con ha_700) (by kernel_rfl) ?_
    refine W.cond 0 100000 h (by kernel_rfl) (fun h => ?_) (fun h => ?_)
    ·
      refine W.bind h fun a_701 ha_701 h => ?_
      refine W.call 0 100000 (by kernel_rfl) (api_List__50_con ha_701) (by kernel_rfl) ?_
      exact W.retT 0 100000 h (by kernel_rfl)
    ·
      refine W.bind h fun a_702 ha_702 h => ?_
      refine W.call 0 100000 (by kernel_rfl) (api_List__50_con ha_702) (by kernel_rfl) ?_
      exact W.retT 0 100000 h (by kernel_rfl)

theorem lists_Drop_1_con {x_718 : List UInt8} {x_719 : List (List UInt8)} {o0_720 : List UInt8} {r : Bool × List UInt8} (h : lists_Drop_1 x_718 x_719 o0_720 = some r) : Con Go.Proofs.Tryd.prog 52 [AV.agg [AV.str x_718, AV.list Ty.str x_719 Bool.false], AV.ptr (0 : Nat) (0 : Nat)] [AO.box [AV.str o0_720]] (lists_Drop_1_res r) (lists_Drop_1_out r) := by
  refine W.con (by kernel_rfl) ?_
  unfold lists_Drop_1 at h
  exact W.retT 0 100000 h (by kernel_rfl)

theorem api_List__v2_con {s_712 : List (List UInt8 × List (List UInt8))} {o0_713 : List UInt8} {r : Int × List UInt8} (h : api_List__v2 s_712 o0_713 = some r) : Con Go.Proofs.Tryd.prog 47 [AV.list (Ty.prod Ty.str (Ty.list Ty.str)) s_712 Bool.false, AV.func (Go.Fn.func (52 : Nat)) [] [AV.ptr (0 : Nat) (0 : Nat)]] [AO.box [AV.str o0_713]] (api_List__v2_res r) (api_List__v2_out r) := by
  refine W.con (by kernel_rfl) ?_
  unfold api_List__v2 at h
  refine W.at 0 100000 [] [0, 1, 7, 8] (c' := (fun (s_735 : Int × List UInt8) => (Cfg.mk Mode.run (headTodo Go.Proofs.Tryd.prog 47 0) (St.mk [AV.list (Ty.prod Ty.str (Ty.list Ty.str)) s_712 Bool.false, AV.func (Go.Fn.func (52 : Nat)) [] [AV.ptr (0 : Nat) (0 : Nat)], jj, jj, jj, jj, jj, AV.int IntKind.i64 (↑(List.length s_712) : Int), AV.int IntKind.i64 (Prod.fst s_735), jj, jj, jj, jj, jj, jj, jj, jj, jj, jj] [AO.box [AV.str (Prod.snd s_735)]] (1 : Nat)))) ((0 : Int), o0_713)) (by kernel_rfl) ?_
  refine W.loop (fun (s_735 : Int × List UInt8) => (Cfg.mk Mode.run (headTodo Go.Proofs.Tryd.prog 47 0) (St.mk [AV.list (Ty.prod Ty.str (Ty.list Ty.str)) s_712 Bool.false, AV.func (Go.Fn.func (52 : Nat)) [] [AV.ptr (0 : Nat) (0 : Nat)], jj, jj, jj, jj, jj, AV.int IntKind.i64 (↑(List.length s_712) : Int), AV.int IntKind.i64 (Prod.fst s_735), jj, jj, jj, jj, jj, jj, jj, jj, jj, jj] [AO.box [AV.str (Prod.snd s_735)]] (1 : Nat)))) (fun t => (Sum.elim (fun t_727 => r = (Prod.fst t_727, Prod.snd t_727)) (fun t_729 => Walk Go.Proofs.Tryd.prog 47 (Cfg.mk Mode.run ((headTodo Go.Proofs.Tryd.prog 47 0).drop 3) (St.mk [jj, jj, jj, jj, jj, jj, jj, jj, jj, jj, jj, jj, jj, jj, jj, jj, jj, jj, jj] [AO.box [AV.str t_729]] (1 : Nat))) (api_List__v2_res r) (api_List__v2_out r))) t) h (fun t h => ?_) (fun s_735 x731 h731 K731 => ?_)
  ·
    rcases t with t_727 | t_729
    · replace h := W.inl (h)
      refine W.elimL (?_)
      exact (Option.some.inj h).symm
    · replace h := W.inr (h)
      refine W.elimR (?_)
      exact W.retT 0 100000 h (by kernel_rfl)
  · unfold api_List__v2_b0 at h731
    refine W.cond 2 100000 h731 (by kernel_rfl) (fun h731 => ?_) (fun h731 => ?_)
    ·
      refine W.needT 2 100000 h731 (by kernel_rfl) (fun h731 => ?_)
      refine W.bind h731 fun a_724 ha_724 h731 => ?_
      refine W.call 2 100000 (by kernel_rfl) (lists_Drop_1_con ha_724) (by kernel_rfl) ?_
      refine W.cond 2 100000 h731 (by kernel_rfl) (fun h731 => ?_) (fun h731 => ?_)
      ·
        cases h731; exact W.retK 2 100000 K731 (by kernel_rfl)
      ·
        cases h731; exact W.at 2 100000 [] [0, 1, 7, 8] (by kernel_rfl) K731
    ·
      cases h731; exact W.at 2 100000 [] [] (by kernel_rfl) K731

theorem api_List__51_con {o0_710 : List UInt8} {o1_711 : List (List UInt8 × List (List UInt8))} {r : List UInt8 × List (List UInt8 × List (List UInt8))} (h : api_List__51 o0_710 o1_711 = some r) : Con Go.Proofs.Tryd.prog 51 [AV.view (1 : Nat) (0 : Nat) Option.none, AV.func (Go.Fn.func (52 : Nat)) [] [AV.ptr (0 : Nat) (0 : Nat)]] [AO.box [AV.str o0_710], AO.row (Ty.prod Ty.str (Ty.list Ty.str)) o1_711] (api_List__51_res r) (api_List__51_out r) := by
  refine W.con (by kernel_rfl) ?_
  unfold api_List__51 at h
  refine W.bind h fun a_736 ha_736 h => ?_
  refine W.call 0 100000 (by kernel_rfl) (api_List__v2_con ha_736) (by kernel_rfl) ?_
  refine W.cond 0 100000 h (by kernel_rfl) (fun h => ?_) (fun h => ?_)
  ·
    exact W.retT 0 100000 h (by kernel_rfl)
  ·
    refine W.at 0 100000 [] [0, 1, 5, 6] (c' := (fun (s_751 : Int × Int × List UInt8 × List (List UInt8 × List (List UInt8))) => (Cfg.mk Mode.run (headTodo Go.Proofs.Tryd.prog 51 0) (St.mk [AV.view (1 : Nat) (0 : Nat) Option.none, AV.func (Go.Fn.func (52 : Nat)) [] [AV.ptr (0 : Nat) (0 : Nat)], jj, jj, jj, AV.int IntKind.i64 (Prod.fst s_751), AV.int IntKind.i64 (Prod.fst (Prod.snd s_751)), jj, jj, jj, jj, jj, jj, jj, jj, jj, jj, jj, jj, jj, jj, jj, jj, jj, jj, jj, jj, jj, jj, jj, jj, jj, jj, jj, jj, jj, jj, jj, jj, jj, jj, jj] [AO.box [AV.str (Prod.fst (Prod.snd (Prod.snd s_751)))], AO.row (Ty.prod Ty.str (Ty.list Ty.str)) (Prod.snd (Prod.snd (Prod.snd s_751)))] (2 : Nat)))) (Prod.fst a_736, IntKind.wrap IntKind.i64 (Prod.fst a_736 + (1 : Int)), Prod.snd a_736, o1_711)) (by kernel_rfl) ?_
    refine W.loop (fun (s_751 : Int × Int × List UInt8 × List (List UInt8 × List (List UInt8))) => (Cfg.mk Mode.run (headTodo Go.Proofs.Tryd.prog 51 0) (St.mk [AV.view (1 : Nat) (0 : Nat) Option.none, AV.func (Go.Fn.func (52 : Nat)) [] [AV.ptr (0 : Nat) (0 : Nat)], jj, jj, jj, AV.int IntKind.i64 (Prod.fst s_751), AV.int IntKind.i64 (Prod.fst (Prod.snd s_751)), jj, jj, jj, jj, jj, jj, jj, jj, jj, jj, jj, jj, jj, jj, jj, jj, jj, jj, jj, jj, jj, jj, jj, jj, jj, jj, jj, jj, jj, jj, jj, jj, jj, jj, jj] [AO.box [AV.str (Prod.fst (Prod.snd (Prod.snd s_751)))], AO.row (Ty.prod Ty.str (Ty.list Ty.str)) (Prod.snd (Prod.snd (Prod.snd s_751)))] (2 : Nat)))) (fun t_745 => Walk Go.Proofs.Tryd.prog 51 (Cfg.mk Mode.run ((headTodo Go.Proofs.Tryd.prog 51 0).drop 3) (St.mk [AV.view (1 : Nat) (0 : Nat) Option.none, jj, jj, jj, jj, AV.int IntKind.i64 (Prod.fst t_745), jj, jj, jj, jj, jj, jj, jj, jj, jj, jj, jj, jj, jj, jj, jj, jj, jj, jj, jj, jj, jj, jj, jj, jj, jj, jj, jj, jj, jj, jj, jj, jj, jj, jj, jj, jj] [AO.box [AV.str (Prod.fst (Prod.snd t_745))], AO.row (Ty.prod Ty.str (Ty.list Ty.str)) (Prod.snd (Prod.snd t_745))] (2 : Nat))) (api_List__51_res r) (api_List__51_out r)) h (fun t_745 h => ?_) (fun s_751 x747 h747 K747 => ?_)
    ·
      refine W.needT 0 100000 h (by kernel_rfl) (fun h => ?_)
      refine W.needT 0 100000 h (by kernel_rfl) (fun h => ?_)
      exact W.retT 0 100000 h (by kernel_rfl)
    · unfold api_List__51_b0 at h747
      refine W.cond 2 100000 h747 (by kernel_rfl) (fun h747 => ?_) (fun h747 => ?_)
      ·
        refine W.needT 2 100000 h747 (by kernel_rfl) (fun h747 => ?_)
        refine W.needT 2 100000 h747 (by kernel_rfl) (fun h747 => ?_)
        refine W.bind h747 fun a_741 ha_741 h747 => ?_
        refine W.call 2 100000 (by kernel_rfl) (lists_Drop_1_con ha_741) (by kernel_rfl) ?_
        refine W.cond 2 100000 h747 (by kernel_rfl) (fun h747 => ?_) (fun h747 => ?_)
        ·
          refine W.needT 2 100000 h747 (by kernel_rfl) (fun h747 => ?_)
          refine W.needT 2 100000 h747 (by kernel_rfl) (fun h747 => ?_)
          cases h747; exact W.at 2 100000 [] [0, 1, 5, 6] (by kernel_rfl) K747
        ·
          cases h747; exact W.at 2 100000 [] [0, 1, 5, 6] (by kernel_rfl) K747
      ·
        cases h747; exact W.at 2 100000 [] [0, 5] (by kernel_rfl) K747

theorem lists_Drop_con {l_707 : List (List UInt8 × List (List UInt8))} {name_708 : List UInt8} {r : List (List UInt8 × List (List UInt8))} (h : lists_Drop l_707 name_708 = some r) : Con Go.Proofs.Tryd.prog 26 [AV.list (Ty.prod Ty.str (Ty.list Ty.str)) l_707 Bool.false, AV.str name_708] [] (lists_Drop_res r) (lists_Drop_out r) := by
  refine W.con (by kernel_rfl) ?_
  unfold lists_Drop at h
  refine W.bind h fun a_709 ha_709 h => ?_
  refine W.call 0 100000 (by kernel_rfl) (api_List__40_con ha_709) (by kernel_rfl) ?_
  refine W.bind h fun a_752 ha_752 h => ?_
  refine W.call 0 100000 (by kernel_rfl) (api_List__51_con ha_752) (by kernel_rfl) ?_
  exact W.retT 0 100000 h (by kernel_rfl)

theorem cellarerref13_Put_con {l_757 : List (List UInt8 × List (List UInt8))} {x_758 : List UInt8} {x_759 : List (List UInt8)} {r : List (List UInt8 × List (List UInt8))} (h : cellarerref13_Put l_757 x_758 x_759 = some r) : Con Go.Proofs.Tryd.prog 27 [AV.list (Ty.prod Ty.str (Ty.list Ty.str)) l_757 Bool.false, AV.agg [AV.str x_758, AV.list Ty.str x_759 Bool.false]] [] (cellarerref13_Put_res r) (cellarerref13_Put_out r) := by
  refine W.con (by kernel_rfl) ?_
  unfold cellarerref13_Put at h
  refine W.bind h fun a_760 ha_760 h => ?_
  refine W.call 0 100000 (by kernel_rfl) (cellarerref13_Find_con ha_760) (by kernel_rfl) ?_
  refine W.at 0 100000 [Co.own 5 (Ty.prod Ty.str (Ty.list Ty.str))] [0, 3, 5, 6, 7, 8] (c' := (fun (s_788 : Bool × Int × List (List UInt8 × List (List UInt8))) => (Cfg.mk Mode.run (headTodo Go.Proofs.Tryd.prog 27 0) (St.mk [AV.list (Ty.prod Ty.str (Ty.list Ty.str)) l_757 Bool.false, jj, jj, AV.ptr (0 : Nat) (0 : Nat), jj, AV.view (1 : Nat) (0 : Nat) Option.none, AV.int IntKind.i64 a_760, AV.bool (Prod.fst s_788), AV.int IntKind.i64 (Prod.fst (Prod.snd s_788)), jj, jj, jj, jj, jj, jj, jj, jj, jj, jj, jj, jj, jj, jj, jj, jj, jj, jj, jj, jj, jj, jj, jj, jj, jj, jj, jj, jj, jj, jj, jj, jj, jj, jj, jj, jj, jj, jj, jj, jj, jj, jj, jj, jj, jj, jj, jj, jj, jj] [AO.box [AV.str x_758, AV.list Ty.str x_759 Bool.false], AO.row (Ty.prod Ty.str (Ty.list Ty.str)) (Prod.snd (Prod.snd s_788))] (0 : Nat)))) (Decidable.decide ((0 : Int) ≤ a_760), (0 : Int), [])) (by kernel_rfl) ?_
  refine W.loop (fun (s_788 : Bool × Int × List (List UInt8 × List (List UInt8))) => (Cfg.mk Mode.run (headTodo Go.Proofs.Tryd.prog 27 0) (St.mk [AV.list (Ty.prod Ty.str (Ty.list Ty.str)) l_757 Bool.false, jj, jj, AV.ptr (0 : Nat) (0 : Nat), jj, AV.view (1 : Nat) (0 : Nat) Option.none, AV.int IntKind.i64 a_760, AV.bool (Prod.fst s_788), AV.int IntKind.i64 (Prod.fst (Prod.snd s_788)), jj, jj, jj, jj, jj, jj, jj, jj, jj, jj, jj, jj, jj, jj, jj, jj, jj, jj, jj, jj, jj, jj, jj, jj, jj, jj, jj, jj, jj, jj, jj, jj, jj, jj, jj, jj, jj, jj, jj, jj, jj, jj, jj, jj, jj, jj, jj, jj, jj] [AO.box [AV.str x_758, AV.list Ty.str x_759 Bool.false], AO.row (Ty.prod Ty.str (Ty.list Ty.str)) (Prod.snd (Prod.snd s_788))] (0 : Nat)))) (fun t_783 => Walk Go.Proofs.Tryd.prog 27 (Cfg.mk Mode.run ((headTodo Go.Proofs.Tryd.prog 27 0).drop 3) (St.mk [jj, jj, jj, AV.ptr (0 : Nat) (0 : Nat), jj, AV.view (1 : Nat) (0 : Nat) Option.none, jj, AV.bool (Prod.fst t_783), jj, jj, jj, jj, jj, jj, jj, jj, jj, jj, jj, jj, jj, jj, jj, jj, jj, jj, jj, jj, jj, jj, jj, jj, jj, jj, jj, jj, jj, jj, jj, jj, jj, jj, jj, jj, jj, jj, jj, jj, jj, jj, jj, jj, jj, jj, jj, jj, jj, jj] [AO.box [AV.str x_758, AV.list Ty.str x_759 Bool.false], AO.row (Ty.prod Ty.str (Ty.list Ty.str)) (Prod.snd t_783)] (0 : Nat))) (cellarerref13_Put_res r) (cellarerref13_Put_out r)) h (fun t_783 h => ?_) (fun s_788 x785 h785 K785 => ?_)
  ·
    refine W.cond 0 100000 h (by kernel_rfl) (fun h => ?_) (fun h => ?_)
    ·
      refine W.needT 0 100000 h (by kernel_rfl) (fun h => ?_)
      exact W.retT 0 100000 h (by kernel_rfl)
    ·
      exact W.retT 0 100000 h (by kernel_rfl)
  · unfold cellarerref13_Put_b0 at h785
    refine W.cond 2 100000 h785 (by kernel_rfl) (fun h785 => ?_) (fun h785 => ?_)
    ·
      refine W.join (fun t_779 => Walk Go.Proofs.Tryd.prog 27 (Cfg.mk Mode.run (seqTodo Go.Proofs.Tryd.prog 27 9) (St.mk [AV.list (Ty.prod Ty.str (Ty.list Ty.str)) l_757 Bool.false, jj, jj, AV.ptr (0 : Nat) (0 : Nat), jj, AV.view (1 : Nat) (0 : Nat) Option.none, AV.int IntKind.i64 a_760, AV.bool (Prod.fst t_779), AV.int IntKind.i64 (Prod.fst (Prod.snd s_788)), jj, jj, jj, jj, jj, jj, jj, jj, jj, jj, jj, jj, jj, jj, jj, jj, jj, jj, jj, jj, jj, jj, jj, jj, jj, jj, jj, jj, jj, jj, jj, jj, jj, jj, jj, jj, jj, jj, jj, jj, jj, jj, jj, jj, jj, jj, jj, jj, jj] [AO.box [AV.str x_758, AV.list Ty.str x_759 Bool.false], AO.row (Ty.prod Ty.str (Ty.list Ty.str)) (Prod.snd t_779)] (0 : Nat))) (cellarerref13_Put_res r) (cellarerref13_Put_out r)) h785 (fun t_779 h785 => ?_) (fun t781 h781 K781 => ?_)
      ·
        refine W.cond 2 100000 h785 (by kernel_rfl) (fun h785 => ?_) (fun h785 => ?_)
        ·
          refine W.needT 2 100000 h785 (by kernel_rfl) (fun h785 => ?_)
          cases h785; exact W.at 2 100000 [Co.own 5 (Ty.prod Ty.str (Ty.list Ty.str))] [0, 3, 5, 6, 7, 8] (by kernel_rfl) K785
        ·
          refine W.needT 2 100000 h785 (by kernel_rfl) (fun h785 => ?_)
          refine W.needT 2 100000 h785 (by kernel_rfl) (fun h785 => ?_)
          cases h785; exact W.at 2 100000 [Co.own 5 (Ty.prod Ty.str (Ty.list Ty.str))] [0, 3, 5, 6, 7, 8] (by kernel_rfl) K785
      · refine W.next 2 4 (by kernel_rfl) ?_
        refine W.cond 6 100000 h781 (by kernel_rfl) (fun h781 => ?_) (fun h781 => ?_)
        ·
          refine W.yes 6 100000 (by kernel_rfl) ?_
          refine W.yes 6 100000 (by kernel_rfl) ?_
          refine W.needT 6 100000 h781 (by kernel_rfl) (fun h781 => ?_)
          refine W.yes 6 100000 (by kernel_rfl) ?_
          refine W.yes 6 100000 (by kernel_rfl) ?_
          refine W.yes 6 100000 (by kernel_rfl) ?_
          refine W.yes 6 100000 (by kernel_rfl) ?_
          refine W.yes 6 100000 (by kernel_rfl) ?_
          refine W.yes 6 100000 (by kernel_rfl) ?_
          refine W.cond 6 100000 h781 (by kernel_rfl) (fun h781 => ?_) (fun h781 => ?_)
          ·
            refine W.needT 6 100000 h781 (by kernel_rfl) (fun h781 => ?_)
            cases h781; exact W.at 6 100000 [] [0, 3, 5, 6, 7, 8] (by kernel_rfl) K781
          ·
            cases h781; exact W.at 6 100000 [] [0, 3, 5, 6, 7, 8] (by kernel_rfl) K781
        ·
          refine W.no 6 100000 (by kernel_rfl) ?_
          refine W.no 6 100000 (by kernel_rfl) ?_
          refine W.no 6 100000 (by kernel_rfl) ?_
          refine W.no 6 100000 (by kernel_rfl) ?_
          refine W.no 6 100000 (by kernel_rfl) ?_
          refine W.no 6 100000 (by kernel_rfl) ?_
          refine W.no 6 100000 (by kernel_rfl) ?_
          refine W.no 6 100000 (by kernel_rfl) ?_
          refine W.no 6 100000 (by kernel_rfl) ?_
          cases h781; exact W.at 6 100000 [] [0, 3, 5, 6, 7, 8] (by kernel_rfl) K781
    ·
      cases h785; exact W.at 2 100000 [] [3, 5, 7] (by kernel_rfl) K785

theorem cellarerref13_Drop_con {l_791 : List (List UInt8 × List (List UInt8))} {name_792 : List UInt8} {r : List (List UInt8 × List (List UInt8))} (h : cellarerref13_Drop l_791 name_792 = some r) : Con Go.Proofs.Tryd.prog 28 [AV.list (Ty.prod Ty.str (Ty.list Ty.str)) l_791 Bool.false, AV.str name_792] [] (cellarerref13_Drop_res r) (cellarerref13_Drop_out r) := by
  refine W.con (by kernel_rfl) ?_
  unfold cellarerref13_Drop at h
  refine W.at 0 100000 [Co.own 5 (Ty.prod Ty.str (Ty.list Ty.str))] [0, 1, 5, 6] (c' := (fun (s_806 : Int × List (List UInt8 × List (List UInt8))) => (Cfg.mk Mode.run (headTodo Go.Proofs.Tryd.prog 28 0) (St.mk [AV.list (Ty.prod Ty.str (Ty.list Ty.str)) l_791 Bool.false, AV.str name_792, jj, jj, jj, AV.view (0 : Nat) (0 : Nat) Option.none, AV.int IntKind.i64 (Prod.fst s_806), jj, jj, jj, jj, jj, jj, jj, jj, jj, jj, jj, jj, jj, jj, jj, jj, jj, jj, jj, jj, jj] [AO.row (Ty.prod Ty.str (Ty.list Ty.str)) (Prod.snd s_806)] (0 : Nat)))) ((0 : Int), [])) (by kernel_rfl) ?_
  refine W.loop (fun (s_806 : Int × List (List UInt8 × List (List UInt8))) => (Cfg.mk Mode.run (headTodo Go.Proofs.Tryd.prog 28 0) (St.mk [AV.list (Ty.prod Ty.str (Ty.list Ty.str)) l_791 Bool.false, AV.str name_792, jj, jj, jj, AV.view (0 : Nat) (0 : Nat) Option.none, AV.int IntKind.i64 (Prod.fst s_806), jj, jj, jj, jj, jj, jj, jj, jj, jj, jj, jj, jj, jj, jj, jj, jj, jj, jj, jj, jj, jj] [AO.row (Ty.prod Ty.str (Ty.list Ty.str)) (Prod.snd s_806)] (0 : Nat)))) (fun t_801 => Walk Go.Proofs.Tryd.prog 28 (Cfg.mk Mode.run ((headTodo Go.Proofs.Tryd.prog 28 0).drop 3) (St.mk [jj, jj, jj, jj, jj, AV.view (0 : Nat) (0 : Nat) Option.none, jj, jj, jj, jj, jj, jj, jj, jj, jj, jj, jj, jj, jj, jj, jj, jj, jj, jj, jj, jj, jj, jj] [AO.row (Ty.prod Ty.str (Ty.list Ty.str)) t_801] (0 : Nat))) (cellarerref13_Drop_res r) (cellarerref13_Drop_out r)) h (fun t_801 h => ?_) (fun s_806 x803 h803 K803 => ?_)
  ·
    exact W.retT 0 100000 h (by kernel_rfl)
  · unfold cellarerref13_Drop_b0 at h803
    refine W.cond 2 100000 h803 (by kernel_rfl) (fun h803 => ?_) (fun h803 => ?_)
    ·
      refine W.needT 2 100000 h803 (by kernel_rfl) (fun h803 => ?_)
      refine W.cond 2 100000 h803 (by kernel_rfl) (fun h803 => ?_) (fun h803 => ?_)
      ·
        refine W.needT 2 100000 h803 (by kernel_rfl) (fun h803 => ?_)
        refine W.needT 2 100000 h803 (by kernel_rfl) (fun h803 => ?_)
        cases h803; exact W.at 2 100000 [Co.own 5 (Ty.prod Ty.str (Ty.list Ty.str))] [0, 1, 5, 6] (by kernel_rfl) K803
      ·
        cases h803; exact W.at 2 100000 [Co.own 5 (Ty.prod Ty.str (Ty.list Ty.str))] [0, 1, 5, 6] (by kernel_rfl) K803
    ·
      cases h803; exact W.at 2 100000 [] [5] (by kernel_rfl) K803

theorem cellarerlaw13_awake_con  {r : Bool} (h : cellarerlaw13_awake  = some r) : Con Go.Proofs.Tryd.prog 7 [] [] (cellarerlaw13_awake_res r) (cellarerlaw13_awake_out r) := by
  refine W.con (by kernel_rfl) ?_
  unfold cellarerlaw13_awake at h
  refine W.bind h fun a_807 ha_807 h => ?_
  refine W.call 0 100000 (by kernel_rfl) (lists_Print_con ha_807) (by kernel_rfl) ?_
  refine W.bind h fun a_808 ha_808 h => ?_
  refine W.call 0 100000 (by kernel_rfl) (lists_Parse_con ha_808) (by kernel_rfl) ?_
  refine W.cond 0 100000 h (by kernel_rfl) (fun h => ?_) (fun h => ?_)
  ·
    refine W.yes 0 100000 (by kernel_rfl) ?_
    refine W.yes 0 100000 (by kernel_rfl) ?_
    refine W.cond 0 100000 h (by kernel_rfl) (fun h => ?_) (fun h => ?_)
    ·
      refine W.yes 0 100000 (by kernel_rfl) ?_
      refine W.yes 0 100000 (by kernel_rfl) ?_
      refine W.cond 0 100000 h (by kernel_rfl) (fun h => ?_) (fun h => ?_)
      ·
        refine W.yes 0 100000 (by kernel_rfl) ?_
        refine W.yes 0 100000 (by kernel_rfl) ?_
        refine W.yes 0 100000 (by kernel_rfl) ?_
        refine W.cond 0 100000 h (by kernel_rfl) (fun h => ?_) (fun h => ?_)
        ·
          refine W.yes 0 100000 (by kernel_rfl) ?_
          refine W.yes 0 100000 (by kernel_rfl) ?_
          refine W.yes 0 100000 (by kernel_rfl) ?_
          refine W.yes 0 100000 (by kernel_rfl) ?_
          refine W.cond 0 100000 h (by kernel_rfl) (fun h => ?_) (fun h => ?_)
          ·
            refine W.yes 0 100000 (by kernel_rfl) ?_
            refine W.yes 0 100000 (by kernel_rfl) ?_
            refine W.bind h fun a_809 ha_809 h => ?_
            refine W.call 0 100000 (by kernel_rfl) (lists_Owners_con ha_809) (by kernel_rfl) ?_
            refine W.yes 0 100000 (by kernel_rfl) ?_
            refine W.yes 0 100000 (by kernel_rfl) ?_
            refine W.yes 0 100000 (by kernel_rfl) ?_
            refine W.cond 0 100000 h (by kernel_rfl) (fun h => ?_) (fun h => ?_)
            ·
              refine W.yes 0 100000 (by kernel_rfl) ?_
              refine W.bind h fun a_810 ha_810 h => ?_
              refine W.call 0 100000 (by kernel_rfl) (lists_Right_con ha_810) (by kernel_rfl) ?_
              refine W.yes 0 100000 (by kernel_rfl) ?_
              exact W.retT 0 100000 h (by kernel_rfl)
            ·
              refine W.no 0 100000 (by kernel_rfl) ?_
              refine W.no 0 100000 (by kernel_rfl) ?_
              exact W.retT 0 100000 h (by kernel_rfl)
          ·
            refine W.no 0 100000 (by kernel_rfl) ?_
            refine W.no 0 100000 (by kernel_rfl) ?_
            refine W.no 0 100000 (by kernel_rfl) ?_
            refine W.no 0 100000 (by kernel_rfl) ?_
            refine W.no 0 100000 (by kernel_rfl) ?_
            refine W.no 0 100000 (by kernel_rfl) ?_
            refine W.no 0 100000 (by kernel_rfl) ?_
            refine W.no 0 100000 (by kernel_rfl) ?_
            exact W.retT 0 100000 h (by kernel_rfl)
        ·
          refine W.no 0 100000 (by kernel_rfl) ?_
          refine W.no 0 100000 (by kernel_rfl) ?_
          refine W.no 0 100000 (by kernel_rfl) ?_
          refine W.no 0 100000 (by kernel_rfl) ?_
          refine W.no 0 100000 (by kernel_rfl) ?_
          refine W.no 0 100000 (by kernel_rfl) ?_
          refine W.no 0 100000 (by kernel_rfl) ?_
          refine W.no 0 100000 (by kernel_rfl) ?_
          refine W.no 0 100000 (by kernel_rfl) ?_
          refine W.no 0 100000 (by kernel_rfl) ?_
          refine W.no 0 100000 (by kernel_rfl) ?_
          refine W.no 0 100000 (by kernel_rfl) ?_
          refine W.no 0 100000 (by kernel_rfl) ?_
          exact W.retT 0 100000 h (by kernel_rfl)
      ·
        refine W.no 0 100000 (by kernel_rfl) ?_
        refine W.no 0 100000 (by kernel_rfl) ?_
        refine W.no 0 100000 (by kernel_rfl) ?_
        refine W.no 0 100000 (by kernel_rfl) ?_
        refine W.no 0 100000 (by kernel_rfl) ?_
        refine W.no 0 100000 (by kernel_rfl) ?_
        refine W.no 0 100000 (by kernel_rfl) ?_
        refine W.no 0 100000 (by kernel_rfl) ?_
        refine W.no 0 100000 (by kernel_rfl) ?_
        refine W.no 0 100000 (by kernel_rfl) ?_
        refine W.no 0 100000 (by kernel_rfl) ?_
        refine W.no 0 100000 (by kernel_rfl) ?_
        refine W.no 0 100000 (by kernel_rfl) ?_
        refine W.no 0 100000 (by kernel_rfl) ?_
        refine W.no 0 100000 (by kernel_rfl) ?_
        refine W.no 0 100000 (by kernel_rfl) ?_
        refine W.no 0 100000 (by kernel_rfl) ?_
        exact W.retT 0 100000 h (by kernel_rfl)
    ·
      refine W.no 0 100000 (by kernel_rfl) ?_
      refine W.no 0 100000 (by kernel_rfl) ?_
      refine W.no 0 100000 (by kernel_rfl) ?_
      refine W.no 0 100000 (by kernel_rfl) ?_
      refine W.no 0 100000 (by kernel_rfl) ?_
      refine W.no 0 100000 (by kernel_rfl) ?_
      refine W.no 0 100000 (by kernel_rfl) ?_
      refine W.no 0 100000 (by kernel_rfl) ?_
      refine W.no 0 100000 (by kernel_rfl) ?_
      refine W.no 0 100000 (by kernel_rfl) ?_
      refine W.no 0 100000 (by kernel_rfl) ?_
      refine W.no 0 100000 (by kernel_rfl) ?_
      refine W.no 0 100000 (by kernel_rfl) ?_
      refine W.no 0 100000 (by kernel_rfl) ?_
      refine W.no 0 100000 (by kernel_rfl) ?_
      refine W.no 0 100000 (by kernel_rfl) ?_
      refine W.no 0 100000 (by kernel_rfl) ?_
      refine W.no 0 100000 (by kernel_rfl) ?_
      refine W.no 0 100000 (by kernel_rfl) ?_
      refine W.no 0 100000 (by kernel_rfl) ?_
      exact W.retT 0 100000 h (by kernel_rfl)
  ·
    refine W.no 0 100000 (by kernel_rfl) ?_
    refine W.no 0 100000 (by kernel_rfl) ?_
    refine W.no 0 100000 (by kernel_rfl) ?_
    refine W.no 0 100000 (by kernel_rfl) ?_
    refine W.no 0 100000 (by kernel_rfl) ?_
    refine W.no 0 100000 (by kernel_rfl) ?_
    refine W.no 0 100000 (by kernel_rfl) ?_
    refine W.no 0 100000 (by kernel_rfl) ?_
    refine W.no 0 100000 (by kernel_rfl) ?_
    refine W.no 0 100000 (by kernel_rfl) ?_
    refine W.no 0 100000 (by kernel_rfl) ?_
    refine W.no 0 100000 (by kernel_rfl) ?_
    refine W.no 0 100000 (by kernel_rfl) ?_
    refine W.no 0 100000 (by kernel_rfl) ?_
    refine W.no 0 100000 (by kernel_rfl) ?_
    refine W.no 0 100000 (by kernel_rfl) ?_
    refine W.no 0 100000 (by kernel_rfl) ?_
    refine W.no 0 100000 (by kernel_rfl) ?_
    refine W.no 0 100000 (by kernel_rfl) ?_
    refine W.no 0 100000 (by kernel_rfl) ?_
    refine W.no 0 100000 (by kernel_rfl) ?_
    refine W.no 0 100000 (by kernel_rfl) ?_
    refine W.no 0 100000 (by kernel_rfl) ?_
    exact W.retT 0 100000 h (by kernel_rfl)

theorem cellarerlaw13_ListsParses_con {name_815 : List UInt8} {s_816 : List UInt8} {r : Bool} (h : cellarerlaw13_ListsParses name_815 s_816 = some r) : Con Go.Proofs.Tryd.prog 3 [AV.str name_815, AV.str s_816] [] (cellarerlaw13_ListsParses_res r) (cellarerlaw13_ListsParses_out r) := by
  refine W.con (by kernel_rfl) ?_
  unfold cellarerlaw13_ListsParses at h
  refine W.join (fun t => (Sum.elim (fun t_820 => r = (t_820)) (fun t_821 => Walk Go.Proofs.Tryd.prog 3 (Cfg.mk Mode.run (seqTodo Go.Proofs.Tryd.prog 3 1) (St.mk [AV.str name_815, AV.str s_816, jj, jj, jj, jj, jj, jj, jj, jj, jj, jj, jj, jj, jj, jj, jj, jj, jj, jj, jj, jj, jj, jj, jj, jj, jj, jj, jj, jj, jj, jj, jj, jj, jj, jj, jj, jj, jj, jj, jj, jj, jj, jj, jj, jj, jj, jj, jj, jj, jj, jj, jj, jj, jj, jj, jj, jj, jj, jj, jj, jj, jj, jj, jj, jj, jj, jj, jj, jj, jj] [] (0 : Nat))) (cellarerlaw13_ListsParses_res r) (cellarerlaw13_ListsParses_out r))) t) h (fun t h => ?_) (fun t832 h832 K832 => ?_)
  ·
    rcases t with t_820 | t_821
    · replace h := W.inl (h)
      refine W.elimL (?_)
      exact (Option.some.inj h).symm
    · replace h := W.inr (h)
      refine W.elimR (?_)
      refine W.bind h fun a_822 ha_822 h => ?_
      refine W.call 0 100000 (by kernel_rfl) (lists_Parse_con ha_822) (by kernel_rfl) ?_
      refine W.bind h fun a_823 ha_823 h => ?_
      refine W.call 0 100000 (by kernel_rfl) (cellarerref13_Parse_con ha_823) (by kernel_rfl) ?_
      refine W.join (fun t => (Sum.elim (fun t_825 => r = (Bool.false)) (fun t_826 => Walk Go.Proofs.Tryd.prog 3 (Cfg.mk Mode.run (seqTodo Go.Proofs.Tryd.prog 3 6) (St.mk [jj, AV.str s_816, jj, jj, jj, AV.ptr (0 : Nat) (0 : Nat), jj, jj, AV.bool (Prod.snd (Prod.snd a_823)), jj, jj, jj, jj, jj, jj, jj, jj, jj, jj, jj, jj, jj, jj, jj, jj, jj, jj, jj, jj, jj, jj, jj, jj, jj, jj, jj, jj, jj, jj, jj, jj, jj, jj, jj, jj, jj, jj, jj, jj, jj, jj, jj, jj, jj, jj, jj, jj, jj, jj, jj, jj, jj, jj, jj, jj, jj, jj, jj, jj, jj, jj] [AO.box [AV.str (Prod.fst a_822), AV.list Ty.str (Prod.fst (Prod.snd a_822)) Bool.false]] (0 : Nat))) (cellarerlaw13_ListsParses_res r) (cellarerlaw13_ListsParses_out r))) t) h (fun t h => ?_) (fun t831 h831 K831 => ?_)
      ·
        rcases t with t_825 | t_826
        · replace h := W.inl (h)
          refine W.elimL (?_)
          exact (Option.some.inj h).symm
        · replace h := W.inr (h)
          refine W.elimR (?_)
          refine W.bind h fun a_827 ha_827 h => ?_
          refine W.call 0 100000 (by kernel_rfl) (lists_Print_con ha_827) (by kernel_rfl) ?_
          refine W.cond 0 100000 h (by kernel_rfl) (fun h => ?_) (fun h => ?_)
          ·
            refine W.yes 0 100000 (by kernel_rfl) ?_
            refine W.yes 0 100000 (by kernel_rfl) ?_
            refine W.yes 0 100000 (by kernel_rfl) ?_
            refine W.yes 0 100000 (by kernel_rfl) ?_
            refine W.yes 0 100000 (by kernel_rfl) ?_
            refine W.bind h fun a_828 ha_828 h => ?_
            refine W.call 0 100000 (by kernel_rfl) (cellarerlaw13_awake_con ha_828) (by kernel_rfl) ?_
            refine W.yes 0 100000 (by kernel_rfl) ?_
            exact W.retT 0 100000 h (by kernel_rfl)
          ·
            refine W.no 0 100000 (by kernel_rfl) ?_
            refine W.no 0 100000 (by kernel_rfl) ?_
            refine W.cond 0 100000 h (by kernel_rfl) (fun h => ?_) (fun h => ?_)
            ·
              refine W.yes 0 100000 (by kernel_rfl) ?_
              refine W.yes 0 100000 (by kernel_rfl) ?_
              refine W.no 0 100000 (by kernel_rfl) ?_
              refine W.yes 0 100000 (by kernel_rfl) ?_
              refine W.no 0 100000 (by kernel_rfl) ?_
              refine W.cond 0 100000 h (by kernel_rfl) (fun h => ?_) (fun h => ?_)
              ·
                refine W.bind h fun a_829 ha_829 h => ?_
                refine W.call 0 100000 (by kernel_rfl) (cellarerlaw13_awake_con ha_829) (by kernel_rfl) ?_
                refine W.yes 0 100000 (by kernel_rfl) ?_
                exact W.retT 0 100000 h (by kernel_rfl)
              ·
                refine W.no 0 100000 (by kernel_rfl) ?_
                exact W.retT 0 100000 h (by kernel_rfl)
            ·
              refine W.no 0 100000 (by kernel_rfl) ?_
              refine W.no 0 100000 (by kernel_rfl) ?_
              refine W.no 0 100000 (by kernel_rfl) ?_
              refine W.no 0 100000 (by kernel_rfl) ?_
              refine W.no 0 100000 (by kernel_rfl) ?_
              refine W.no 0 100000 (by kernel_rfl) ?_
              refine W.no 0 100000 (by kernel_rfl) ?_
              exact W.retT 0 100000 h (by kernel_rfl)
      · refine W.next 0 8 (by kernel_rfl) ?_
        refine W.cond 1 100000 h831 (by kernel_rfl) (fun h831 => ?_) (fun h831 => ?_)
        ·
          refine W.yes 1 100000 (by kernel_rfl) ?_
          refine W.yes 1 100000 (by kernel_rfl) ?_
          refine W.yes 1 100000 (by kernel_rfl) ?_
          refine W.yes 1 100000 (by kernel_rfl) ?_
          refine W.yes 1 100000 (by kernel_rfl) ?_
          refine W.yes 1 100000 (by kernel_rfl) ?_
          refine W.yes 1 100000 (by kernel_rfl) ?_
          refine W.yes 1 100000 (by kernel_rfl) ?_
          refine W.yes 1 100000 (by kernel_rfl) ?_
          refine W.yes 1 100000 (by kernel_rfl) ?_
          refine W.yes 1 100000 (by kernel_rfl) ?_
          refine W.yes 1 100000 (by kernel_rfl) ?_
          cases h831; exact W.retK 1 100000 K831 (by kernel_rfl)
        ·
          refine W.no 1 100000 (by kernel_rfl) ?_
          refine W.no 1 100000 (by kernel_rfl) ?_
          refine W.no 1 100000 (by kernel_rfl) ?_
          refine W.no 1 100000 (by kernel_rfl) ?_
          refine W.bind h831 fun a_824 ha_824 h831 => ?_
          refine W.call 1 100000 (by kernel_rfl) (cellarerref13_Same_con ha_824) (by kernel_rfl) ?_
          refine W.no 1 100000 (by kernel_rfl) ?_
          refine W.no 1 100000 (by kernel_rfl) ?_
          refine W.cond 1 100000 h831 (by kernel_rfl) (fun h831 => ?_) (fun h831 => ?_)
          ·
            refine W.yes 1 100000 (by kernel_rfl) ?_
            refine W.yes 1 100000 (by kernel_rfl) ?_
            refine W.yes 1 100000 (by kernel_rfl) ?_
            refine W.yes 1 100000 (by kernel_rfl) ?_
            refine W.yes 1 100000 (by kernel_rfl) ?_
            cases h831; exact W.retK 1 100000 K831 (by kernel_rfl)
          ·
            refine W.no 1 100000 (by kernel_rfl) ?_
            refine W.no 1 100000 (by kernel_rfl) ?_
            refine W.cond 1 100000 h831 (by kernel_rfl) (fun h831 => ?_) (fun h831 => ?_)
            ·
              refine W.yes 1 100000 (by kernel_rfl) ?_
              refine W.no 1 100000 (by kernel_rfl) ?_
              refine W.yes 1 100000 (by kernel_rfl) ?_
              refine W.no 1 100000 (by kernel_rfl) ?_
              refine W.cond 1 100000 h831 (by kernel_rfl) (fun h831 => ?_) (fun h831 => ?_)
              ·
                cases h831; exact W.retK 1 100000 K831 (by kernel_rfl)
              ·
                cases h831; exact W.at 1 100000 [] [1, 5, 8] (by kernel_rfl) K831
            ·
              refine W.no 1 100000 (by kernel_rfl) ?_
              refine W.no 1 100000 (by kernel_rfl) ?_
              refine W.no 1 100000 (by kernel_rfl) ?_
              refine W.no 1 100000 (by kernel_rfl) ?_
              refine W.no 1 100000 (by kernel_rfl) ?_
              cases h831; exact W.at 1 100000 [] [1, 5, 8] (by kernel_rfl) K831
  · refine W.next 0 5 (by kernel_rfl) ?_
    refine W.cond 1 100000 h832 (by kernel_rfl) (fun h832 => ?_) (fun h832 => ?_)
    ·
      refine W.yes 1 100000 (by kernel_rfl) ?_
      refine W.yes 1 100000 (by kernel_rfl) ?_
      refine W.yes 1 100000 (by kernel_rfl) ?_
      refine W.yes 1 100000 (by kernel_rfl) ?_
      refine W.bind h832 fun a_817 ha_817 h832 => ?_
      refine W.call 1 100000 (by kernel_rfl) (cellarerlaw13_awake_con ha_817) (by kernel_rfl) ?_
      cases h832; exact W.retK 1 100000 K832 (by kernel_rfl)
    ·
      refine W.no 1 100000 (by kernel_rfl) ?_
      refine W.no 1 100000 (by kernel_rfl) ?_
      refine W.no 1 100000 (by kernel_rfl) ?_
      refine W.cond 1 100000 h832 (by kernel_rfl) (fun h832 => ?_) (fun h832 => ?_)
      ·
        refine W.bind h832 fun a_818 ha_818 h832 => ?_
        refine W.call 1 100000 (by kernel_rfl) (cellarerlaw13_awake_con ha_818) (by kernel_rfl) ?_
        cases h832; exact W.retK 1 100000 K832 (by kernel_rfl)
      ·
        cases h832; exact W.at 1 100000 [] [0, 1] (by kernel_rfl) K832

theorem cellarerlaw13_ListsPrints_con {x_836 : List UInt8} {x_837 : List (List UInt8)} {l_838 : List (List UInt8 × List (List UInt8))} {r : Bool} (h : cellarerlaw13_ListsPrints x_836 x_837 l_838 = some r) : Con Go.Proofs.Tryd.prog 4 [AV.agg [AV.str x_836, AV.list Ty.str x_837 Bool.false], AV.list (Ty.prod Ty.str (Ty.list Ty.str)) l_838 Bool.false] [] (cellarerlaw13_ListsPrints_res r) (cellarerlaw13_ListsPrints_out r) := by
  refine W.con (by kernel_rfl) ?_
  unfold cellarerlaw13_ListsPrints at h
  refine W.join (fun t => (Sum.elim (fun t_844 => r = (t_844)) (fun t_845 => Walk Go.Proofs.Tryd.prog 4 (Cfg.mk Mode.run (seqTodo Go.Proofs.Tryd.prog 4 1) (St.mk [jj, AV.list (Ty.prod Ty.str (Ty.list Ty.str)) l_838 Bool.false, AV.ptr (0 : Nat) (0 : Nat), jj, jj, jj, jj, jj, jj, jj, jj, jj, jj, jj, jj, jj, jj, jj, jj, jj, jj, jj, jj, jj, jj, jj, jj, jj, jj, jj, jj, jj, jj, jj, jj, jj, jj, jj, jj, jj, jj, jj, jj, jj, jj, jj, jj, jj, jj, jj, jj, jj, jj, jj, jj, jj, jj, jj, jj, jj, jj, jj, jj, jj, jj, jj, jj, jj, jj, jj, jj, jj, jj, jj, jj] [AO.box [AV.str x_836, AV.list Ty.str x_837 Bool.false]] (0 : Nat))) (cellarerlaw13_ListsPrints_res r) (cellarerlaw13_ListsPrints_out r))) t) h (fun t h => ?_) (fun t860 h860 K860 => ?_)
  ·
    rcases t with t_844 | t_845
    · replace h := W.inl (h)
      refine W.elimL (?_)
      exact (Option.some.inj h).symm
    · replace h := W.inr (h)
      refine W.elimR (?_)
      refine W.bind h fun a_846 ha_846 h => ?_
      refine W.call 0 100000 (by kernel_rfl) (lists_Print_con ha_846) (by kernel_rfl) ?_
      refine W.bind h fun a_847 ha_847 h => ?_
      refine W.call 0 100000 (by kernel_rfl) (cellarerref13_Print_con ha_847) (by kernel_rfl) ?_
      refine W.join (fun t => (Sum.elim (fun t_852 => r = (Bool.false)) (fun t_853 => Walk Go.Proofs.Tryd.prog 4 (Cfg.mk Mode.run (seqTodo Go.Proofs.Tryd.prog 4 6) (St.mk [jj, jj, AV.ptr (0 : Nat) (0 : Nat), jj, jj, AV.str (Prod.fst a_846), AV.int IntKind.i64 (Prod.snd a_846), jj, jj, jj, jj, jj, jj, jj, jj, jj, jj, jj, jj, jj, jj, jj, jj, jj, jj, jj, jj, jj, jj, jj, jj, jj, jj, jj, jj, jj, jj, jj, jj, jj, jj, jj, jj, jj, jj, jj, jj, jj, jj, jj, jj, jj, jj, jj, jj, jj, jj, jj, jj, jj, jj, jj, jj, jj, jj, jj, jj, jj, jj, jj, jj, jj, jj, jj, jj] [AO.box [AV.str x_836, AV.list Ty.str x_837 Bool.false]] (0 : Nat))) (cellarerlaw13_ListsPrints_res r) (cellarerlaw13_ListsPrints_out r))) t) h (fun t h => ?_) (fun t859 h859 K859 => ?_)
      ·
        rcases t with t_852 | t_853
        · replace h := W.inl (h)
          refine W.elimL (?_)
          exact (Option.some.inj h).symm
        · replace h := W.inr (h)
          refine W.elimR (?_)
          refine W.cond 0 100000 h (by kernel_rfl) (fun h => ?_) (fun h => ?_)
          ·
            refine W.bind h fun a_854 ha_854 h => ?_
            refine W.call 0 100000 (by kernel_rfl) (cellarerlaw13_awake_con ha_854) (by kernel_rfl) ?_
            exact W.retT 0 100000 h (by kernel_rfl)
          ·
            refine W.bind h fun a_855 ha_855 h => ?_
            refine W.call 0 100000 (by kernel_rfl) (lists_Parse_con ha_855) (by kernel_rfl) ?_
            refine W.cond 0 100000 h (by kernel_rfl) (fun h => ?_) (fun h => ?_)
            ·
              refine W.yes 0 100000 (by kernel_rfl) ?_
              refine W.yes 0 100000 (by kernel_rfl) ?_
              refine W.yes 0 100000 (by kernel_rfl) ?_
              refine W.yes 0 100000 (by kernel_rfl) ?_
              refine W.bind h fun a_856 ha_856 h => ?_
              refine W.call 0 100000 (by kernel_rfl) (cellarerref13_Same_con ha_856) (by kernel_rfl) ?_
              refine W.yes 0 100000 (by kernel_rfl) ?_
              refine W.cond 0 100000 h (by kernel_rfl) (fun h => ?_) (fun h => ?_)
              ·
                refine W.bind h fun a_857 ha_857 h => ?_
                refine W.call 0 100000 (by kernel_rfl) (cellarerlaw13_awake_con ha_857) (by kernel_rfl) ?_
                refine W.yes 0 100000 (by kernel_rfl) ?_
                exact W.retT 0 100000 h (by kernel_rfl)
              ·
                refine W.no 0 100000 (by kernel_rfl) ?_
                exact W.retT 0 100000 h (by kernel_rfl)
            ·
              refine W.no 0 100000 (by kernel_rfl) ?_
              refine W.no 0 100000 (by kernel_rfl) ?_
              refine W.no 0 100000 (by kernel_rfl) ?_
              refine W.no 0 100000 (by kernel_rfl) ?_
              refine W.no 0 100000 (by kernel_rfl) ?_
              refine W.no 0 100000 (by kernel_rfl) ?_
              refine W.no 0 100000 (by kernel_rfl) ?_
              exact W.retT 0 100000 h (by kernel_rfl)
      · refine W.next 0 7 (by kernel_rfl) ?_
        refine W.cond 1 100000 h859 (by kernel_rfl) (fun h859 => ?_) (fun h859 => ?_)
        ·
          refine W.yes 1 100000 (by kernel_rfl) ?_
          refine W.yes 1 100000 (by kernel_rfl) ?_
          refine W.yes 1 100000 (by kernel_rfl) ?_
          refine W.yes 1 100000 (by kernel_rfl) ?_
          refine W.yes 1 100000 (by kernel_rfl) ?_
          refine W.yes 1 100000 (by kernel_rfl) ?_
          refine W.yes 1 100000 (by kernel_rfl) ?_
          refine W.yes 1 100000 (by kernel_rfl) ?_
          refine W.yes 1 100000 (by kernel_rfl) ?_
          refine W.yes 1 100000 (by kernel_rfl) ?_
          refine W.yes 1 100000 (by kernel_rfl) ?_
          refine W.yes 1 100000 (by kernel_rfl) ?_
          refine W.yes 1 100000 (by kernel_rfl) ?_
          refine W.yes 1 100000 (by kernel_rfl) ?_
          refine W.yes 1 100000 (by kernel_rfl) ?_
          refine W.yes 1 100000 (by kernel_rfl) ?_
          cases h859; exact W.retK 1 100000 K859 (by kernel_rfl)
        ·
          refine W.no 1 100000 (by kernel_rfl) ?_
          refine W.no 1 100000 (by kernel_rfl) ?_
          refine W.no 1 100000 (by kernel_rfl) ?_
          refine W.cond 1 100000 h859 (by kernel_rfl) (fun h859 => ?_) (fun h859 => ?_)
          ·
            refine W.yes 1 100000 (by kernel_rfl) ?_
            refine W.yes 1 100000 (by kernel_rfl) ?_
            refine W.yes 1 100000 (by kernel_rfl) ?_
            refine W.yes 1 100000 (by kernel_rfl) ?_
            refine W.yes 1 100000 (by kernel_rfl) ?_
            refine W.yes 1 100000 (by kernel_rfl) ?_
            refine W.yes 1 100000 (by kernel_rfl) ?_
            refine W.yes 1 100000 (by kernel_rfl) ?_
            refine W.yes 1 100000 (by kernel_rfl) ?_
            refine W.yes 1 100000 (by kernel_rfl) ?_
            refine W.yes 1 100000 (by kernel_rfl) ?_
            refine W.yes 1 100000 (by kernel_rfl) ?_
            cases h859; exact W.retK 1 100000 K859 (by kernel_rfl)
          ·
            refine W.no 1 100000 (by kernel_rfl) ?_
            refine W.bind h859 fun a_848 ha_848 h859 => ?_
            refine W.call 1 100000 (by kernel_rfl) (lists_Right_con ha_848) (by kernel_rfl) ?_
            refine W.no 1 100000 (by kernel_rfl) ?_
            refine W.no 1 100000 (by kernel_rfl) ?_
            refine W.bind h859 fun a_849 ha_849 h859 => ?_
            refine W.call 1 100000 (by kernel_rfl) (cellarerref13_Right_con ha_849) (by kernel_rfl) ?_
            refine W.no 1 100000 (by kernel_rfl) ?_
            refine W.no 1 100000 (by kernel_rfl) ?_
            refine W.cond 1 100000 h859 (by kernel_rfl) (fun h859 => ?_) (fun h859 => ?_)
            ·
              refine W.yes 1 100000 (by kernel_rfl) ?_
              refine W.yes 1 100000 (by kernel_rfl) ?_
              refine W.yes 1 100000 (by kernel_rfl) ?_
              refine W.yes 1 100000 (by kernel_rfl) ?_
              refine W.yes 1 100000 (by kernel_rfl) ?_
              refine W.yes 1 100000 (by kernel_rfl) ?_
              cases h859; exact W.retK 1 100000 K859 (by kernel_rfl)
            ·
              refine W.no 1 100000 (by kernel_rfl) ?_
              refine W.bind h859 fun a_850 ha_850 h859 => ?_
              refine W.call 1 100000 (by kernel_rfl) (lists_Check_con ha_850) (by kernel_rfl) ?_
              refine W.no 1 100000 (by kernel_rfl) ?_
              refine W.no 1 100000 (by kernel_rfl) ?_
              refine W.bind h859 fun a_851 ha_851 h859 => ?_
              refine W.call 1 100000 (by kernel_rfl) (cellarerref13_Check_con ha_851) (by kernel_rfl) ?_
              refine W.no 1 100000 (by kernel_rfl) ?_
              refine W.no 1 100000 (by kernel_rfl) ?_
              refine W.cond 1 100000 h859 (by kernel_rfl) (fun h859 => ?_) (fun h859 => ?_)
              ·
                cases h859; exact W.retK 1 100000 K859 (by kernel_rfl)
              ·
                cases h859; exact W.at 1 100000 [] [2, 5, 6] (by kernel_rfl) K859
  · refine W.next 0 6 (by kernel_rfl) ?_
    refine W.bind h860 fun a_839 ha_839 h860 => ?_
    refine W.call 1 100000 (by kernel_rfl) (cellarerlaw13_Few_con ha_839) (by kernel_rfl) ?_
    refine W.cond 1 100000 h860 (by kernel_rfl) (fun h860 => ?_) (fun h860 => ?_)
    ·
      refine W.yes 1 100000 (by kernel_rfl) ?_
      refine W.yes 1 100000 (by kernel_rfl) ?_
      refine W.yes 1 100000 (by kernel_rfl) ?_
      refine W.yes 1 100000 (by kernel_rfl) ?_
      refine W.bind h860 fun a_840 ha_840 h860 => ?_
      refine W.call 1 100000 (by kernel_rfl) (cellarerlaw13_awake_con ha_840) (by kernel_rfl) ?_
      cases h860; exact W.retK 1 100000 K860 (by kernel_rfl)
    ·
      refine W.no 1 100000 (by kernel_rfl) ?_
      refine W.bind h860 fun a_841 ha_841 h860 => ?_
      refine W.call 1 100000 (by kernel_rfl) (cellarerlaw13_Few_con ha_841) (by kernel_rfl) ?_
      refine W.no 1 100000 (by kernel_rfl) ?_
      refine W.no 1 100000 (by kernel_rfl) ?_
      refine W.cond 1 100000 h860 (by kernel_rfl) (fun h860 => ?_) (fun h860 => ?_)
      ·
        refine W.bind h860 fun a_842 ha_842 h860 => ?_
        refine W.call 1 100000 (by kernel_rfl) (cellarerlaw13_awake_con ha_842) (by kernel_rfl) ?_
        cases h860; exact W.retK 1 100000 K860 (by kernel_rfl)
      ·
        cases h860; exact W.at 1 100000 [] [1, 2] (by kernel_rfl) K860

theorem cellarerlaw13_ListsOwners_con {l_865 : List (List UInt8 × List (List UInt8))} {p_866 : List UInt8} {x_867 : List UInt8} {x_868 : List (List UInt8)} {r : Bool} (h : cellarerlaw13_ListsOwners l_865 p_866 x_867 x_868 = some r) : Con Go.Proofs.Tryd.prog 5 [AV.list (Ty.prod Ty.str (Ty.list Ty.str)) l_865 Bool.false, AV.str p_866, AV.agg [AV.str x_867, AV.list Ty.str x_868 Bool.false]] [] (cellarerlaw13_ListsOwners_res r) (cellarerlaw13_ListsOwners_out r) := by
  refine W.con (by kernel_rfl) ?_
  unfold cellarerlaw13_ListsOwners at h
  refine W.join (fun t => (Sum.elim (fun t_875 => r = (t_875)) (fun t_876 => Walk Go.Proofs.Tryd.prog 5 (Cfg.mk Mode.run (seqTodo Go.Proofs.Tryd.prog 5 1) (St.mk [AV.list (Ty.prod Ty.str (Ty.list Ty.str)) l_865 Bool.false, AV.str p_866, jj, jj, jj, AV.ptr (0 : Nat) (0 : Nat), jj, jj, jj, jj, jj, jj, jj, jj, jj, jj, jj, jj, jj, jj, jj, jj, jj, jj, jj, jj, jj, jj, jj, jj, jj, jj, jj, jj, jj, jj, jj, jj, jj, jj, jj, jj, jj, jj, jj, jj, jj, jj, jj, jj, jj, jj, jj, jj, jj, jj, jj, jj, jj, jj, jj, jj, jj, jj, jj, jj, jj, jj, jj, jj, jj, jj, jj, jj, jj, jj] [AO.box [AV.str x_867, AV.list Ty.str x_868 Bool.false]] (0 : Nat))) (cellarerlaw13_ListsOwners_res r) (cellarerlaw13_ListsOwners_out r))) t) h (fun t h => ?_) (fun t891 h891 K891 => ?_)
  ·
    rcases t with t_875 | t_876
    · replace h := W.inl (h)
      refine W.elimL (?_)
      exact (Option.some.inj h).symm
    · replace h := W.inr (h)
      refine W.elimR (?_)
      refine W.bind h fun a_877 ha_877 h => ?_
      refine W.call 0 100000 (by kernel_rfl) (lists_Lose_con ha_877) (by kernel_rfl) ?_
      refine W.join (fun t => (Sum.elim (fun t_883 => r = (Bool.false)) (fun t_884 => Walk Go.Proofs.Tryd.prog 5 (Cfg.mk Mode.run (seqTodo Go.Proofs.Tryd.prog 5 5) (St.mk [jj, jj, jj, jj, jj, AV.ptr (0 : Nat) (0 : Nat), jj, AV.view (1 : Nat) (0 : Nat) Option.none, jj, jj, jj, jj, jj, jj, jj, jj, jj, jj, jj, jj, jj, jj, jj, jj, jj, jj, jj, jj, jj, jj, jj, jj, jj, jj, jj, jj, jj, jj, jj, jj, jj, jj, jj, jj, jj, jj, jj, jj, jj, jj, jj, jj, jj, jj, jj, jj, jj, jj, jj, jj, jj, jj, jj, jj, jj, jj, jj, jj, jj, jj, jj, jj, jj, jj, jj, jj] [AO.box [AV.str x_867, AV.list Ty.str x_868 Bool.false], AO.row (Ty.prod Ty.str (Ty.list Ty.str)) a_877] (0 : Nat))) (cellarerlaw13_ListsOwners_res r) (cellarerlaw13_ListsOwners_out r))) t) h (fun t h => ?_) (fun t890 h890 K890 => ?_)
      ·
        rcases t with t_883 | t_884
        · replace h := W.inl (h)
          refine W.elimL (?_)
          exact (Option.some.inj h).symm
        · replace h := W.inr (h)
          refine W.elimR (?_)
          refine W.bind h fun a_885 ha_885 h => ?_
          refine W.call 0 100000 (by kernel_rfl) (lists_Find_con ha_885) (by kernel_rfl) ?_
          refine W.cond 0 100000 h (by kernel_rfl) (fun h => ?_) (fun h => ?_)
          ·
            refine W.yes 0 100000 (by kernel_rfl) ?_
            refine W.yes 0 100000 (by kernel_rfl) ?_
            refine W.yes 0 100000 (by kernel_rfl) ?_
            refine W.yes 0 100000 (by kernel_rfl) ?_
            refine W.yes 0 100000 (by kernel_rfl) ?_
            refine W.yes 0 100000 (by kernel_rfl) ?_
            refine W.yes 0 100000 (by kernel_rfl) ?_
            refine W.yes 0 100000 (by kernel_rfl) ?_
            refine W.yes 0 100000 (by kernel_rfl) ?_
            refine W.yes 0 100000 (by kernel_rfl) ?_
            refine W.yes 0 100000 (by kernel_rfl) ?_
            refine W.yes 0 100000 (by kernel_rfl) ?_
            refine W.yes 0 100000 (by kernel_rfl) ?_
            refine W.yes 0 100000 (by kernel_rfl) ?_
            refine W.yes 0 100000 (by kernel_rfl) ?_
            refine W.yes 0 100000 (by kernel_rfl) ?_
            refine W.yes 0 100000 (by kernel_rfl) ?_
            refine W.bind h fun a_886 ha_886 h => ?_
            refine W.call 0 100000 (by kernel_rfl) (cellarerlaw13_awake_con ha_886) (by kernel_rfl) ?_
            refine W.yes 0 100000 (by kernel_rfl) ?_
            exact W.retT 0 100000 h (by kernel_rfl)
          ·
            refine W.no 0 100000 (by kernel_rfl) ?_
            refine W.no 0 100000 (by kernel_rfl) ?_
            refine W.needT 0 100000 h (by kernel_rfl) (fun h => ?_)
            refine W.no 0 100000 (by kernel_rfl) ?_
            refine W.no 0 100000 (by kernel_rfl) ?_
            refine W.needT 0 100000 h (by kernel_rfl) (fun h => ?_)
            refine W.no 0 100000 (by kernel_rfl) ?_
            refine W.no 0 100000 (by kernel_rfl) ?_
            refine W.no 0 100000 (by kernel_rfl) ?_
            refine W.bind h fun a_887 ha_887 h => ?_
            refine W.call 0 100000 (by kernel_rfl) (cellarerref13_Minus_con ha_887) (by kernel_rfl) ?_
            refine W.no 0 100000 (by kernel_rfl) ?_
            refine W.no 0 100000 (by kernel_rfl) ?_
            refine W.no 0 100000 (by kernel_rfl) ?_
            refine W.no 0 100000 (by kernel_rfl) ?_
            refine W.needT 0 100000 h (by kernel_rfl) (fun h => ?_)
            refine W.no 0 100000 (by kernel_rfl) ?_
            refine W.no 0 100000 (by kernel_rfl) ?_
            refine W.needT 0 100000 h (by kernel_rfl) (fun h => ?_)
            refine W.no 0 100000 (by kernel_rfl) ?_
            refine W.no 0 100000 (by kernel_rfl) ?_
            refine W.no 0 100000 (by kernel_rfl) ?_
            refine W.cond 0 100000 h (by kernel_rfl) (fun h => ?_) (fun h => ?_)
            ·
              refine W.bind h fun a_888 ha_888 h => ?_
              refine W.call 0 100000 (by kernel_rfl) (cellarerlaw13_awake_con ha_888) (by kernel_rfl) ?_
              refine W.yes 0 100000 (by kernel_rfl) ?_
              exact W.retT 0 100000 h (by kernel_rfl)
            ·
              refine W.no 0 100000 (by kernel_rfl) ?_
              exact W.retT 0 100000 h (by kernel_rfl)
      · refine W.next 0 3 (by kernel_rfl) ?_
        refine W.bind h890 fun a_878 ha_878 h890 => ?_
        refine W.call 1 100000 (by kernel_rfl) (lists_Owners_con ha_878) (by kernel_rfl) ?_
        refine W.bind h890 fun a_879 ha_879 h890 => ?_
        refine W.call 1 100000 (by kernel_rfl) (cellarerref13_Owners_con ha_879) (by kernel_rfl) ?_
        refine W.bind h890 fun a_880 ha_880 h890 => ?_
        refine W.call 1 100000 (by kernel_rfl) (cellarerref02_Same_con ha_880) (by kernel_rfl) ?_
        refine W.cond 1 100000 h890 (by kernel_rfl) (fun h890 => ?_) (fun h890 => ?_)
        ·
          refine W.yes 1 100000 (by kernel_rfl) ?_
          refine W.yes 1 100000 (by kernel_rfl) ?_
          refine W.yes 1 100000 (by kernel_rfl) ?_
          refine W.yes 1 100000 (by kernel_rfl) ?_
          refine W.yes 1 100000 (by kernel_rfl) ?_
          refine W.yes 1 100000 (by kernel_rfl) ?_
          refine W.yes 1 100000 (by kernel_rfl) ?_
          refine W.yes 1 100000 (by kernel_rfl) ?_
          refine W.yes 1 100000 (by kernel_rfl) ?_
          refine W.yes 1 100000 (by kernel_rfl) ?_
          cases h890; exact W.retK 1 100000 K890 (by kernel_rfl)
        ·
          refine W.no 1 100000 (by kernel_rfl) ?_
          refine W.no 1 100000 (by kernel_rfl) ?_
          refine W.no 1 100000 (by kernel_rfl) ?_
          refine W.no 1 100000 (by kernel_rfl) ?_
          refine W.no 1 100000 (by kernel_rfl) ?_
          refine W.no 1 100000 (by kernel_rfl) ?_
          refine W.bind h890 fun a_881 ha_881 h890 => ?_
          refine W.call 1 100000 (by kernel_rfl) (cellarerref13_Lose_con ha_881) (by kernel_rfl) ?_
          refine W.no 1 100000 (by kernel_rfl) ?_
          refine W.bind h890 fun a_882 ha_882 h890 => ?_
          refine W.call 1 100000 (by kernel_rfl) (cellarerref13_Same_con ha_882) (by kernel_rfl) ?_
          refine W.no 1 100000 (by kernel_rfl) ?_
          refine W.no 1 100000 (by kernel_rfl) ?_
          refine W.cond 1 100000 h890 (by kernel_rfl) (fun h890 => ?_) (fun h890 => ?_)
          ·
            cases h890; exact W.retK 1 100000 K890 (by kernel_rfl)
          ·
            cases h890; exact W.at 1 100000 [] [5, 7] (by kernel_rfl) K890
  · refine W.next 0 6 (by kernel_rfl) ?_
    refine W.bind h891 fun a_869 ha_869 h891 => ?_
    refine W.call 1 100000 (by kernel_rfl) (cellarerlaw13_Few_con ha_869) (by kernel_rfl) ?_
    refine W.cond 1 100000 h891 (by kernel_rfl) (fun h891 => ?_) (fun h891 => ?_)
    ·
      refine W.yes 1 100000 (by kernel_rfl) ?_
      refine W.yes 1 100000 (by kernel_rfl) ?_
      refine W.yes 1 100000 (by kernel_rfl) ?_
      refine W.yes 1 100000 (by kernel_rfl) ?_
      refine W.yes 1 100000 (by kernel_rfl) ?_
      refine W.yes 1 100000 (by kernel_rfl) ?_
      refine W.yes 1 100000 (by kernel_rfl) ?_
      refine W.yes 1 100000 (by kernel_rfl) ?_
      refine W.yes 1 100000 (by kernel_rfl) ?_
      refine W.bind h891 fun a_870 ha_870 h891 => ?_
      refine W.call 1 100000 (by kernel_rfl) (cellarerlaw13_awake_con ha_870) (by kernel_rfl) ?_
      cases h891; exact W.retK 1 100000 K891 (by kernel_rfl)
    ·
      refine W.no 1 100000 (by kernel_rfl) ?_
      refine W.no 1 100000 (by kernel_rfl) ?_
      refine W.bind h891 fun a_871 ha_871 h891 => ?_
      refine W.call 1 100000 (by kernel_rfl) (cellarerlaw13_Few_con ha_871) (by kernel_rfl) ?_
      refine W.no 1 100000 (by kernel_rfl) ?_
      refine W.no 1 100000 (by kernel_rfl) ?_
      refine W.cond 1 100000 h891 (by kernel_rfl) (fun h891 => ?_) (fun h891 => ?_)
      ·
        refine W.yes 1 100000 (by kernel_rfl) ?_
        refine W.yes 1 100000 (by kernel_rfl) ?_
        refine W.yes 1 100000 (by kernel_rfl) ?_
        refine W.yes 1 100000 (by kernel_rfl) ?_
        refine W.bind h891 fun a_872 ha_872 h891 => ?_
        refine W.call 1 100000 (by kernel_rfl) (cellarerlaw13_awake_con ha_872) (by kernel_rfl) ?_
        cases h891; exact W.retK 1 100000 K891 (by kernel_rfl)
      ·
        refine W.no 1 100000 (by kernel_rfl) ?_
        refine W.no 1 100000 (by kernel_rfl) ?_
        refine W.no 1 100000 (by kernel_rfl) ?_
        refine W.cond 1 100000 h891 (by kernel_rfl) (fun h891 => ?_) (fun h891 => ?_)
        ·
          refine W.bind h891 fun a_873 ha_873 h891 => ?_
          refine W.call 1 100000 (by kernel_rfl) (cellarerlaw13_awake_con ha_873) (by kernel_rfl) ?_
          cases h891; exact W.retK 1 100000 K891 (by kernel_rfl)
        ·
          cases h891; exact W.at 1 100000 [] [0, 1, 5] (by kernel_rfl) K891

end Go.Cellar
