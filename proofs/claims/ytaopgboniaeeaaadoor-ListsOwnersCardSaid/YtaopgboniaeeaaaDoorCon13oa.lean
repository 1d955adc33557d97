/- What the program's functions come to: printed by a program, checked by Lean. No condition. -/
import Derived.Test.YtaopgboniaeeaaaDoorFun13o
import Derived.Test.YtaopgboniaeeaaaDoorCon13b
import Derived.Test.YtaopgboniaeeaaaDoorAbs31
set_option maxRecDepth 4000
set_option synthInstance.maxHeartbeats 2000000
set_option synthInstance.maxSize 100000
set_option linter.unusedVariables false
namespace Go.Cellar
open Go

theorem api_List__F_con {s_7 : List (List UInt8 × List (List UInt8))} {r : List (List UInt8 × List (List UInt8))} (h : api_List__F s_7 = some r) : Con Go.Proofs.Tryd.prog 40 [AV.list (Ty.prod Ty.str (Ty.list Ty.str)) s_7 Bool.false] [] (api_List__F_res r) (api_List__F_out r) := by
  refine W.con (by kernel_rfl) ?_
  unfold api_List__F at h
  refine W.mayb 0 100000 h (by kernel_rfl) (fun h => ?_) (fun h => ?_)
  ·
    exact W.retT 0 100000 h (by kernel_rfl)
  ·
    refine W.needT 0 100000 h (by kernel_rfl) (fun h => ?_)
    exact W.retT 0 100000 h (by kernel_rfl)

theorem lists_Lose_1_F_con {p_20 : List UInt8} {t_21 : List (List UInt8)} {r : Bool} (h : lists_Lose_1_F p_20 t_21 = some r) : Con Go.Proofs.Tryd.prog 43 [AV.str p_20, AV.iptr [AV.list Ty.str t_21 Bool.false]] [] (lists_Lose_1_F_res r) (lists_Lose_1_F_out r) := by
  refine W.con (by kernel_rfl) ?_
  unfold lists_Lose_1_F at h
  refine W.bind h fun a_22 ha_22 h => ?_
  refine W.call 0 100000 (by kernel_rfl) (slices_Contains___string_string__con ha_22) (by kernel_rfl) ?_
  exact W.retT 0 100000 h (by kernel_rfl)

theorem slices_IndexFunc___string_string__F_con {s_14 : List (List UInt8)} {f_15 : List (List UInt8)} {r : Int} (h : slices_IndexFunc___string_string__F s_14 f_15 = some r) : Con Go.Proofs.Tryd.prog 59 [AV.list Ty.str s_14 Bool.false, AV.func (Go.Fn.func (43 : Nat)) [] [AV.iptr [AV.list Ty.str f_15 Bool.false]]] [] (slices_IndexFunc___string_string__F_res r) (slices_IndexFunc___string_string__F_out r) := by
  refine W.con (by kernel_rfl) ?_
  unfold slices_IndexFunc___string_string__F at h
  refine W.at 0 100000 [] [0, 1, 7, 8] (c' := (fun (s_33 : Int) => (Cfg.mk Mode.run (headTodo Go.Proofs.Tryd.prog 59 0) (St.mk [AV.list Ty.str s_14 Bool.false, AV.func (Go.Fn.func (43 : Nat)) [] [AV.iptr [AV.list Ty.str f_15 Bool.false]], jj, jj, jj, jj, jj, AV.int IntKind.i64 (↑(List.length s_14) : Int), AV.int IntKind.i64 s_33, jj, jj, jj, jj, jj, jj, jj, jj, jj, jj] [] (0 : Nat)))) ((0 : Int))) (by kernel_rfl) ?_
  refine W.loop (fun (s_33 : Int) => (Cfg.mk Mode.run (headTodo Go.Proofs.Tryd.prog 59 0) (St.mk [AV.list Ty.str s_14 Bool.false, AV.func (Go.Fn.func (43 : Nat)) [] [AV.iptr [AV.list Ty.str f_15 Bool.false]], jj, jj, jj, jj, jj, AV.int IntKind.i64 (↑(List.length s_14) : Int), AV.int IntKind.i64 s_33, jj, jj, jj, jj, jj, jj, jj, jj, jj, jj] [] (0 : Nat)))) (fun t => (Sum.elim (fun t_27 => r = (t_27)) (fun t_28 => Walk Go.Proofs.Tryd.prog 59 (Cfg.mk Mode.run ((headTodo Go.Proofs.Tryd.prog 59 0).drop 3) (St.mk [jj, jj, jj, jj, jj, jj, jj, jj, jj, jj, jj, jj, jj, jj, jj, jj, jj, jj, jj] [] (0 : Nat))) (slices_IndexFunc___string_string__F_res r) (slices_IndexFunc___string_string__F_out r))) t) h (fun t h => ?_) (fun s_33 x30 h30 K30 => ?_)
  ·
    rcases t with t_27 | t_28
    · replace h := W.inl (h)
      refine W.elimL (?_)
      exact (Option.some.inj h).symm
    · replace h := W.inr (h)
      refine W.elimR (?_)
      exact W.retT 0 100000 h (by kernel_rfl)
  · unfold slices_IndexFunc___string_string__F_b0 at h30
    refine W.cond 2 100000 h30 (by kernel_rfl) (fun h30 => ?_) (fun h30 => ?_)
    ·
      refine W.needT 2 100000 h30 (by kernel_rfl) (fun h30 => ?_)
      refine W.bind h30 fun a_25 ha_25 h30 => ?_
      refine W.call 2 100000 (by kernel_rfl) (lists_Lose_1_F_con ha_25) (by kernel_rfl) ?_
      refine W.cond 2 100000 h30 (by kernel_rfl) (fun h30 => ?_) (fun h30 => ?_)
      ·
        cases h30; exact W.retK 2 100000 K30 (by kernel_rfl)
      ·
        cases h30; exact W.at 2 100000 [] [0, 1, 7, 8] (by kernel_rfl) K30
    ·
      cases h30; exact W.at 2 100000 [] [] (by kernel_rfl) K30

theorem slices_DeleteFunc___string_string__F_con {del_12 : List (List UInt8)} {o0_13 : List (List UInt8)} {r : List (List UInt8)} (h : slices_DeleteFunc___string_string__F del_12 o0_13 = some r) : Con Go.Proofs.Tryd.prog 41 [AV.view (0 : Nat) (0 : Nat) Option.none, AV.func (Go.Fn.func (43 : Nat)) [] [AV.iptr [AV.list Ty.str del_12 Bool.false]]] [AO.row Ty.str o0_13] (slices_DeleteFunc___string_string__F_res r) (slices_DeleteFunc___string_string__F_out r) := by
  refine W.con (by kernel_rfl) ?_
  unfold slices_DeleteFunc___string_string__F at h
  refine W.bind h fun a_34 ha_34 h => ?_
  refine W.call 0 100000 (by kernel_rfl) (slices_IndexFunc___string_string__F_con ha_34) (by kernel_rfl) ?_
  refine W.cond 0 100000 h (by kernel_rfl) (fun h => ?_) (fun h => ?_)
  ·
    exact W.retT 0 100000 h (by kernel_rfl)
  ·
    refine W.at 0 100000 [] [0, 1, 5, 6] (c' := (fun (s_47 : Int × Int × List (List UInt8)) => (Cfg.mk Mode.run (headTodo Go.Proofs.Tryd.prog 41 0) (St.mk [AV.view (0 : Nat) (0 : Nat) Option.none, AV.func (Go.Fn.func (43 : Nat)) [] [AV.iptr [AV.list Ty.str del_12 Bool.false]], jj, jj, jj, AV.int IntKind.i64 (Prod.fst s_47), AV.int IntKind.i64 (Prod.fst (Prod.snd s_47)), jj, jj, jj, jj, jj, jj, jj, jj, jj, jj, jj, jj, jj, jj, jj, jj, jj, jj, jj, jj, jj, jj, jj, jj, jj, jj, jj, jj, jj, jj, jj, jj, jj, jj, jj] [AO.row Ty.str (Prod.snd (Prod.snd s_47))] (1 : Nat)))) (a_34, IntKind.wrap IntKind.i64 (a_34 + (1 : Int)), o0_13)) (by kernel_rfl) ?_
    refine W.loop (fun (s_47 : Int × Int × List (List UInt8)) => (Cfg.mk Mode.run (headTodo Go.Proofs.Tryd.prog 41 0) (St.mk [AV.view (0 : Nat) (0 : Nat) Option.none, AV.func (Go.Fn.func (43 : Nat)) [] [AV.iptr [AV.list Ty.str del_12 Bool.false]], jj, jj, jj, AV.int IntKind.i64 (Prod.fst s_47), AV.int IntKind.i64 (Prod.fst (Prod.snd s_47)), jj, jj, jj, jj, jj, jj, jj, jj, jj, jj, jj, jj, jj, jj, jj, jj, jj, jj, jj, jj, jj, jj, jj, jj, jj, jj, jj, jj, jj, jj, jj, jj, jj, jj, jj] [AO.row Ty.str (Prod.snd (Prod.snd s_47))] (1 : Nat)))) (fun t_42 => Walk Go.Proofs.Tryd.prog 41 (Cfg.mk Mode.run ((headTodo Go.Proofs.Tryd.prog 41 0).drop 3) (St.mk [AV.view (0 : Nat) (0 : Nat) Option.none, jj, jj, jj, jj, AV.int IntKind.i64 (Prod.fst t_42), jj, jj, jj, jj, jj, jj, jj, jj, jj, jj, jj, jj, jj, jj, jj, jj, jj, jj, jj, jj, jj, jj, jj, jj, jj, jj, jj, jj, jj, jj, jj, jj, jj, jj, jj, jj] [AO.row Ty.str (Prod.snd t_42)] (1 : Nat))) (slices_DeleteFunc___string_string__F_res r) (slices_DeleteFunc___string_string__F_out r)) h (fun t_42 h => ?_) (fun s_47 x44 h44 K44 => ?_)
    ·
      refine W.needT 0 100000 h (by kernel_rfl) (fun h => ?_)
      refine W.needT 0 100000 h (by kernel_rfl) (fun h => ?_)
      exact W.retT 0 100000 h (by kernel_rfl)
    · unfold slices_DeleteFunc___string_string__F_b0 at h44
      refine W.cond 2 100000 h44 (by kernel_rfl) (fun h44 => ?_) (fun h44 => ?_)
      ·
        refine W.needT 2 100000 h44 (by kernel_rfl) (fun h44 => ?_)
        refine W.needT 2 100000 h44 (by kernel_rfl) (fun h44 => ?_)
        refine W.bind h44 fun a_39 ha_39 h44 => ?_
        refine W.call 2 100000 (by kernel_rfl) (lists_Lose_1_F_con ha_39) (by kernel_rfl) ?_
        refine W.cond 2 100000 h44 (by kernel_rfl) (fun h44 => ?_) (fun h44 => ?_)
        ·
          refine W.needT 2 100000 h44 (by kernel_rfl) (fun h44 => ?_)
          refine W.needT 2 100000 h44 (by kernel_rfl) (fun h44 => ?_)
          cases h44; exact W.at 2 100000 [] [0, 1, 5, 6] (by kernel_rfl) K44
        ·
          cases h44; exact W.at 2 100000 [] [0, 1, 5, 6] (by kernel_rfl) K44
      ·
        cases h44; exact W.at 2 100000 [] [0, 5] (by kernel_rfl) K44

theorem lists_Lose_F_con {l_3 : List (List UInt8 × List (List UInt8))} {name_4 : List UInt8} {paths_5 : List (List UInt8)} {r : List (List UInt8 × List (List UInt8))} (h : lists_Lose_F l_3 name_4 paths_5 = some r) : Con Go.Proofs.Tryd.prog 18 [AV.list (Ty.prod Ty.str (Ty.list Ty.str)) l_3 Bool.false, AV.str name_4, AV.list Ty.str paths_5 Bool.false] [] (lists_Lose_F_res r) (lists_Lose_F_out r) := by
  refine W.con (by kernel_rfl) ?_
  refine W.box 4 5 (by kernel_rfl) ?_
  unfold lists_Lose_F at h
  refine W.bind h fun a_6 ha_6 h => ?_
  refine W.call 0 100000 (by kernel_rfl) (lists_Find_con ha_6) (by kernel_rfl) ?_
  refine W.bind h fun a_10 ha_10 h => ?_
  refine W.call 0 100000 (by kernel_rfl) (api_List__F_con ha_10) (by kernel_rfl) ?_
  refine W.cond 0 100000 h (by kernel_rfl) (fun h => ?_) (fun h => ?_)
  ·
    exact W.retT 0 100000 h (by kernel_rfl)
  ·
    refine W.needT 0 100000 h (by kernel_rfl) (fun h => ?_)
    refine W.bind h fun a_11 ha_11 h => ?_
    refine W.call 0 100000 (by kernel_rfl) (slices_Clone___string_string__con ha_11) (by kernel_rfl) ?_
    refine W.bind h fun a_48 ha_48 h => ?_
    refine W.call 0 100000 (by kernel_rfl) (slices_DeleteFunc___string_string__F_con ha_48) (by kernel_rfl) ?_
    refine W.needT 0 100000 h (by kernel_rfl) (fun h => ?_)
    refine W.needT 0 100000 h (by kernel_rfl) (fun h => ?_)
    exact W.retT 0 100000 h (by kernel_rfl)

theorem cellarerlaw13_ListsOwners_F_con {l_54 : List (List UInt8 × List (List UInt8))} {p_55 : List UInt8} {x_56 : List UInt8} {x_57 : List (List UInt8)} {r : Bool} (h : cellarerlaw13_ListsOwners_F l_54 p_55 x_56 x_57 = some r) : Con Go.Proofs.Tryd.prog 5 [AV.list (Ty.prod Ty.str (Ty.list Ty.str)) l_54 Bool.false, AV.str p_55, AV.agg [AV.str x_56, AV.list Ty.str x_57 Bool.false]] [] (cellarerlaw13_ListsOwners_F_res r) (cellarerlaw13_ListsOwners_F_out r) := by
  refine W.con (by kernel_rfl) ?_
  unfold cellarerlaw13_ListsOwners_F at h
  refine W.join (fun t => (Sum.elim (fun t_64 => r = (t_64)) (fun t_65 => Walk Go.Proofs.Tryd.prog 5 (Cfg.mk Mode.run (seqTodo Go.Proofs.Tryd.prog 5 1) (St.mk [AV.list (Ty.prod Ty.str (Ty.list Ty.str)) l_54 Bool.false, AV.str p_55, jj, jj, jj, AV.ptr (0 : Nat) (0 : Nat), jj, jj, jj, jj, jj, jj, jj, jj, jj, jj, jj, jj, jj, jj, jj, jj, jj, jj, jj, jj, jj, jj, jj, jj, jj, jj, jj, jj, jj, jj, jj, jj, jj, jj, jj, jj, jj, jj, jj, jj, jj, jj, jj, jj, jj, jj, jj, jj, jj, jj, jj, jj, jj, jj, jj, jj, jj, jj, jj, jj, jj, jj, jj, jj, jj, jj, jj, jj, jj, jj] [AO.box [AV.str x_56, AV.list Ty.str x_57 Bool.false]] (0 : Nat))) (cellarerlaw13_ListsOwners_F_res r) (cellarerlaw13_ListsOwners_F_out r))) t) h (fun t h => ?_) (fun t80 h80 K80 => ?_)
  ·
    rcases t with t_64 | t_65
    · replace h := W.inl (h)
      refine W.elimL (?_)
      exact (Option.some.inj h).symm
    · replace h := W.inr (h)
      refine W.elimR (?_)
      refine W.bind h fun a_66 ha_66 h => ?_
      refine W.call 0 100000 (by kernel_rfl) (lists_Lose_F_con ha_66) (by kernel_rfl) ?_
      refine W.join (fun t => (Sum.elim (fun t_72 => r = (Bool.false)) (fun t_73 => Walk Go.Proofs.Tryd.prog 5 (Cfg.mk Mode.run (seqTodo Go.Proofs.Tryd.prog 5 5) (St.mk [jj, jj, jj, jj, jj, AV.ptr (0 : Nat) (0 : Nat), jj, AV.view (1 : Nat) (0 : Nat) Option.none, jj, jj, jj, jj, jj, jj, jj, jj, jj, jj, jj, jj, jj, jj, jj, jj, jj, jj, jj, jj, jj, jj, jj, jj, jj, jj, jj, jj, jj, jj, jj, jj, jj, jj, jj, jj, jj, jj, jj, jj, jj, jj, jj, jj, jj, jj, jj, jj, jj, jj, jj, jj, jj, jj, jj, jj, jj, jj, jj, jj, jj, jj, jj, jj, jj, jj, jj, jj] [AO.box [AV.str x_56, AV.list Ty.str x_57 Bool.false], AO.row (Ty.prod Ty.str (Ty.list Ty.str)) a_66] (0 : Nat))) (cellarerlaw13_ListsOwners_F_res r) (cellarerlaw13_ListsOwners_F_out r))) t) h (fun t h => ?_) (fun t79 h79 K79 => ?_)
      ·
        rcases t with t_72 | t_73
        · replace h := W.inl (h)
          refine W.elimL (?_)
          exact (Option.some.inj h).symm
        · replace h := W.inr (h)
          refine W.elimR (?_)
          refine W.bind h fun a_74 ha_74 h => ?_
          refine W.call 0 100000 (by kernel_rfl) (lists_Find_con ha_74) (by kernel_rfl) ?_
          refine W.cond 0 100000 h (by kernel_rfl) (fun h => ?_) (fun h => ?_)
          ·
            refine W.yes 0 100000 (by kernel_rfl) ?_
            refine W.yes 0 100000 (by kernel_rfl) ?_
            refine W.yes 0 100000 (by kernel_rfl) ?_
            refine W.yes 0 100000 (by kernel_rfl) ?_
            refine W.yes 0 100000 (by kernel_rfl) ?_
            refine W.yes 0 100000 (by kernel_rfl) ?_
            refine W.yes 0 100000 (by kernel_rfl) ?_
            refine W.yes 0 100000 (by kernel_rfl) ?_
            refine W.yes 0 100000 (by kernel_rfl) ?_
            refine W.yes 0 100000 (by kernel_rfl) ?_
            refine W.yes 0 100000 (by kernel_rfl) ?_
            refine W.yes 0 100000 (by kernel_rfl) ?_
            refine W.yes 0 100000 (by kernel_rfl) ?_
            refine W.yes 0 100000 (by kernel_rfl) ?_
            refine W.yes 0 100000 (by kernel_rfl) ?_
            refine W.yes 0 100000 (by kernel_rfl) ?_
            refine W.yes 0 100000 (by kernel_rfl) ?_
            refine W.bind h fun a_75 ha_75 h => ?_
            refine W.call 0 100000 (by kernel_rfl) (cellarerlaw13_awake_con ha_75) (by kernel_rfl) ?_
            refine W.yes 0 100000 (by kernel_rfl) ?_
            exact W.retT 0 100000 h (by kernel_rfl)
          ·
            refine W.no 0 100000 (by kernel_rfl) ?_
            refine W.no 0 100000 (by kernel_rfl) ?_
            refine W.needT 0 100000 h (by kernel_rfl) (fun h => ?_)
            refine W.no 0 100000 (by kernel_rfl) ?_
            refine W.no 0 100000 (by kernel_rfl) ?_
            refine W.needT 0 100000 h (by kernel_rfl) (fun h => ?_)
            refine W.no 0 100000 (by kernel_rfl) ?_
            refine W.no 0 100000 (by kernel_rfl) ?_
            refine W.no 0 100000 (by kernel_rfl) ?_
            refine W.bind h fun a_76 ha_76 h => ?_
            refine W.call 0 100000 (by kernel_rfl) (cellarerref13_Minus_con ha_76) (by kernel_rfl) ?_
            refine W.no 0 100000 (by kernel_rfl) ?_
            refine W.no 0 100000 (by kernel_rfl) ?_
            refine W.no 0 100000 (by kernel_rfl) ?_
            refine W.no 0 100000 (by kernel_rfl) ?_
            refine W.needT 0 100000 h (by kernel_rfl) (fun h => ?_)
            refine W.no 0 100000 (by kernel_rfl) ?_
            refine W.no 0 100000 (by kernel_rfl) ?_
            refine W.needT 0 100000 h (by kernel_rfl) (fun h => ?_)
            refine W.no 0 100000 (by kernel_rfl) ?_
            refine W.no 0 100000 (by kernel_rfl) ?_
            refine W.no 0 100000 (by kernel_rfl) ?_
            refine W.cond 0 100000 h (by kernel_rfl) (fun h => ?_) (fun h => ?_)
            ·
              refine W.bind h fun a_77 ha_77 h => ?_
              refine W.call 0 100000 (by kernel_rfl) (cellarerlaw13_awake_con ha_77) (by kernel_rfl) ?_
              refine W.yes 0 100000 (by kernel_rfl) ?_
              exact W.retT 0 100000 h (by kernel_rfl)
            ·
              refine W.no 0 100000 (by kernel_rfl) ?_
              exact W.retT 0 100000 h (by kernel_rfl)
      · refine W.next 0 3 (by kernel_rfl) ?_
        refine W.bind h79 fun a_67 ha_67 h79 => ?_
        refine W.call 1 100000 (by kernel_rfl) (lists_Owners_con ha_67) (by kernel_rfl) ?_
        refine W.bind h79 fun a_68 ha_68 h79 => ?_
        refine W.call 1 100000 (by kernel_rfl) (cellarerref13_Owners_con ha_68) (by kernel_rfl) ?_
        refine W.bind h79 fun a_69 ha_69 h79 => ?_
        refine W.call 1 100000 (by kernel_rfl) (cellarerref02_Same_con ha_69) (by kernel_rfl) ?_
        refine W.cond 1 100000 h79 (by kernel_rfl) (fun h79 => ?_) (fun h79 => ?_)
        ·
          refine W.yes 1 100000 (by kernel_rfl) ?_
          refine W.yes 1 100000 (by kernel_rfl) ?_
          refine W.yes 1 100000 (by kernel_rfl) ?_
          refine W.yes 1 100000 (by kernel_rfl) ?_
          refine W.yes 1 100000 (by kernel_rfl) ?_
          refine W.yes 1 100000 (by kernel_rfl) ?_
          refine W.yes 1 100000 (by kernel_rfl) ?_
          refine W.yes 1 100000 (by kernel_rfl) ?_
          refine W.yes 1 100000 (by kernel_rfl) ?_
          refine W.yes 1 100000 (by kernel_rfl) ?_
          cases h79; exact W.retK 1 100000 K79 (by kernel_rfl)
        ·
          refine W.no 1 100000 (by kernel_rfl) ?_
          refine W.no 1 100000 (by kernel_rfl) ?_
          refine W.no 1 100000 (by kernel_rfl) ?_
          refine W.no 1 100000 (by kernel_rfl) ?_
          refine W.no 1 100000 (by kernel_rfl) ?_
          refine W.no 1 100000 (by kernel_rfl) ?_
          refine W.bind h79 fun a_70 ha_70 h79 => ?_
          refine W.call 1 100000 (by kernel_rfl) (cellarerref13_Lose_con ha_70) (by kernel_rfl) ?_
          refine W.no 1 100000 (by kernel_rfl) ?_
          refine W.bind h79 fun a_71 ha_71 h79 => ?_
          refine W.call 1 100000 (by kernel_rfl) (cellarerref13_Same_con ha_71) (by kernel_rfl) ?_
          refine W.no 1 100000 (by kernel_rfl) ?_
          refine W.no 1 100000 (by kernel_rfl) ?_
          refine W.cond 1 100000 h79 (by kernel_rfl) (fun h79 => ?_) (fun h79 => ?_)
          ·
            cases h79; exact W.retK 1 100000 K79 (by kernel_rfl)
          ·
            cases h79; exact W.at 1 100000 [] [5, 7] (by kernel_rfl) K79
  · refine W.next 0 6 (by kernel_rfl) ?_
    refine W.bind h80 fun a_58 ha_58 h80 => ?_
    refine W.call 1 100000 (by kernel_rfl) (cellarerlaw13_Few_con ha_58) (by kernel_rfl) ?_
    refine W.cond 1 100000 h80 (by kernel_rfl) (fun h80 => ?_) (fun h80 => ?_)
    ·
      refine W.yes 1 100000 (by kernel_rfl) ?_
      refine W.yes 1 100000 (by kernel_rfl) ?_
      refine W.yes 1 100000 (by kernel_rfl) ?_
      refine W.yes 1 100000 (by kernel_rfl) ?_
      refine W.yes 1 100000 (by kernel_rfl) ?_
      refine W.yes 1 100000 (by kernel_rfl) ?_
      refine W.yes 1 100000 (by kernel_rfl) ?_
      refine W.yes 1 100000 (by kernel_rfl) ?_
      refine W.yes 1 100000 (by kernel_rfl) ?_
      refine W.bind h80 fun a_59 ha_59 h80 => ?_
      refine W.call 1 100000 (by kernel_rfl) (cellarerlaw13_awake_con ha_59) (by kernel_rfl) ?_
      cases h80; exact W.retK 1 100000 K80 (by kernel_rfl)
    ·
      refine W.no 1 100000 (by kernel_rfl) ?_
      refine W.no 1 100000 (by kernel_rfl) ?_
      refine W.bind h80 fun a_60 ha_60 h80 => ?_
      refine W.call 1 100000 (by kernel_rfl) (cellarerlaw13_Few_con ha_60) (by kernel_rfl) ?_
      refine W.no 1 100000 (by kernel_rfl) ?_
      refine W.no 1 100000 (by kernel_rfl) ?_
      refine W.cond 1 100000 h80 (by kernel_rfl) (fun h80 => ?_) (fun h80 => ?_)
      ·
        refine W.yes 1 100000 (by kernel_rfl) ?_
        refine W.yes 1 100000 (by kernel_rfl) ?_
        refine W.yes 1 100000 (by kernel_rfl) ?_
        refine W.yes 1 100000 (by kernel_rfl) ?_
        refine W.bind h80 fun a_61 ha_61 h80 => ?_
        refine W.call 1 100000 (by kernel_rfl) (cellarerlaw13_awake_con ha_61) (by kernel_rfl) ?_
        cases h80; exact W.retK 1 100000 K80 (by kernel_rfl)
      ·
        refine W.no 1 100000 (by kernel_rfl) ?_
        refine W.no 1 100000 (by kernel_rfl) ?_
        refine W.no 1 100000 (by kernel_rfl) ?_
        refine W.cond 1 100000 h80 (by kernel_rfl) (fun h80 => ?_) (fun h80 => ?_)
        ·
          refine W.bind h80 fun a_62 ha_62 h80 => ?_
          refine W.call 1 100000 (by kernel_rfl) (cellarerlaw13_awake_con ha_62) (by kernel_rfl) ?_
          cases h80; exact W.retK 1 100000 K80 (by kernel_rfl)
        ·
          cases h80; exact W.at 1 100000 [] [0, 1, 5] (by kernel_rfl) K80

end Go.Cellar
