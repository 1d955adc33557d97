/- The program's functions, as plain Lean functions: printed by a program out of the translation. No condition. -/
import Derived.Test.YtmeglodejjkmoaaDoorAbs23
set_option maxRecDepth 4000
set_option linter.unusedVariables false
namespace Go.Cellar
open Go

def path_Name_res (r : Bool) : AV := (fun (r_15 : Bool) => AV.bool r_15) r

def path_Name_out (r : Bool) : List AO := (fun (r_15 : Bool) => []) r

noncomputable def path_Name_b0 (s_4 : List UInt8) (t_5 : Int) (s_16 : Int) : Option ((Int) ⊕ (Unit ⊕ Unit)) :=
  bif Decidable.decide (s_16 < t_5) then
    if (0 : Int) ≤ s_16 ∧ s_16 < (↑(List.length s_4) : Int) then
      Option.bind (α := Bool) (
        bif Decidable.decide ((97 : Int) ≤ (↑(UInt8.toNat (List.getD s_4 (Int.toNat s_16) (0 : UInt8))) : Int)) then
          bif Decidable.decide ((↑(UInt8.toNat (List.getD s_4 (Int.toNat s_16) (0 : UInt8))) : Int) ≤ (122 : Int)) then
            some (Bool.true)
          else
            bif Decidable.decide ((48 : Int) ≤ (↑(UInt8.toNat (List.getD s_4 (Int.toNat s_16) (0 : UInt8))) : Int)) then
              some (Decidable.decide ((↑(UInt8.toNat (List.getD s_4 (Int.toNat s_16) (0 : UInt8))) : Int) ≤ (57 : Int)))
            else
              some (Bool.false)
        else
          bif Decidable.decide ((48 : Int) ≤ (↑(UInt8.toNat (List.getD s_4 (Int.toNat s_16) (0 : UInt8))) : Int)) then
            some (Decidable.decide ((↑(UInt8.toNat (List.getD s_4 (Int.toNat s_16) (0 : UInt8))) : Int) ≤ (57 : Int)))
          else
            some (Bool.false)) (fun t_8 =>
        bif !t_8 then
          bif Decidable.decide (s_16 = (0 : Int)) then
            some (Sum.inr (Sum.inl ()))
          else
            bif !Decidable.decide ((↑(UInt8.toNat (List.getD s_4 (Int.toNat s_16) (0 : UInt8))) : Int) = (43 : Int)) then
              bif !Decidable.decide ((↑(UInt8.toNat (List.getD s_4 (Int.toNat s_16) (0 : UInt8))) : Int) = (45 : Int)) then
                bif !Decidable.decide ((↑(UInt8.toNat (List.getD s_4 (Int.toNat s_16) (0 : UInt8))) : Int) = (46 : Int)) then
                  some (Sum.inr (Sum.inl ()))
                else
                  some (Sum.inl (IntKind.wrap IntKind.i64 (s_16 + (1 : Int))))
              else
                some (Sum.inl (IntKind.wrap IntKind.i64 (s_16 + (1 : Int))))
            else
              some (Sum.inl (IntKind.wrap IntKind.i64 (s_16 + (1 : Int))))
        else
          some (Sum.inl (IntKind.wrap IntKind.i64 (s_16 + (1 : Int)))))
    else none
  else
    some (Sum.inr (Sum.inr ()))

noncomputable def path_Name (s_1 : List UInt8) : Option (Bool) :=
  Option.bind (α := Unit ⊕ Unit) (
    bif Decidable.decide ((↑(List.length s_1) : Int) = (0 : Int)) then
      some (Sum.inl ())
    else
      bif Decidable.decide ((60 : Int) < (↑(List.length s_1) : Int)) then
        some (Sum.inl ())
      else
        some (Sum.inr ())) (Sum.elim (fun t_2 =>
    some (Bool.false)) (fun t_3 =>
    (iter (path_Name_b0 (s_1) ((↑(List.length s_1) : Int))) ((0 : Int))).bind (Sum.elim (fun t_10 =>
      some (Bool.false)) (fun t_11 =>
      some (Bool.true)))))

def cellarerref02_Name_res (r : Bool) : AV := (fun (r_35 : Bool) => AV.bool r_35) r

def cellarerref02_Name_out (r : Bool) : List AO := (fun (r_35 : Bool) => []) r

noncomputable def cellarerref02_Name_b0 (s_20 : List UInt8) (s_36 : Int) : Option ((Int) ⊕ (Unit ⊕ Unit)) :=
  bif Decidable.decide (s_36 < (↑(List.length s_20) : Int)) then
    if (0 : Int) ≤ s_36 ∧ s_36 < (↑(List.length s_20) : Int) then
      Option.bind (α := Bool) (
        bif Decidable.decide ((97 : Int) ≤ (↑(UInt8.toNat (List.getD s_20 (Int.toNat s_36) (0 : UInt8))) : Int)) then
          some (Decidable.decide ((↑(UInt8.toNat (List.getD s_20 (Int.toNat s_36) (0 : UInt8))) : Int) ≤ (122 : Int)))
        else
          some (Bool.false)) (fun t_23 =>
        Option.bind (α := Bool) (
          bif Decidable.decide ((48 : Int) ≤ (↑(UInt8.toNat (List.getD s_20 (Int.toNat s_36) (0 : UInt8))) : Int)) then
            some (Decidable.decide ((↑(UInt8.toNat (List.getD s_20 (Int.toNat s_36) (0 : UInt8))) : Int) ≤ (57 : Int)))
          else
            some (Bool.false)) (fun t_25 =>
          Option.bind (α := Bool) (
            bif Decidable.decide ((↑(UInt8.toNat (List.getD s_20 (Int.toNat s_36) (0 : UInt8))) : Int) = (43 : Int)) then
              some (Bool.true)
            else
              bif Decidable.decide ((↑(UInt8.toNat (List.getD s_20 (Int.toNat s_36) (0 : UInt8))) : Int) = (45 : Int)) then
                some (Bool.true)
              else
                some (Decidable.decide ((↑(UInt8.toNat (List.getD s_20 (Int.toNat s_36) (0 : UInt8))) : Int) = (46 : Int)))) (fun t_27 =>
            bif !t_23 then
              bif !t_25 then
                bif !t_27 then
                  some (Sum.inr (Sum.inl ()))
                else
                  bif t_27 then
                    bif Decidable.decide (s_36 = (0 : Int)) then
                      some (Sum.inr (Sum.inl ()))
                    else
                      some (Sum.inl (IntKind.wrap IntKind.i64 (s_36 + (1 : Int))))
                  else
                    some (Sum.inl (IntKind.wrap IntKind.i64 (s_36 + (1 : Int))))
              else
                bif t_27 then
                  bif Decidable.decide (s_36 = (0 : Int)) then
                    some (Sum.inr (Sum.inl ()))
                  else
                    some (Sum.inl (IntKind.wrap IntKind.i64 (s_36 + (1 : Int))))
                else
                  some (Sum.inl (IntKind.wrap IntKind.i64 (s_36 + (1 : Int))))
            else
              bif t_27 then
                bif Decidable.decide (s_36 = (0 : Int)) then
                  some (Sum.inr (Sum.inl ()))
                else
                  some (Sum.inl (IntKind.wrap IntKind.i64 (s_36 + (1 : Int))))
              else
                some (Sum.inl (IntKind.wrap IntKind.i64 (s_36 + (1 : Int)))))))
    else none
  else
    some (Sum.inr (Sum.inr ()))

noncomputable def cellarerref02_Name (s_19 : List UInt8) : Option (Bool) :=
  (iter (cellarerref02_Name_b0 (s_19)) ((0 : Int))).bind (Sum.elim (fun t_31 =>
    some (Bool.false)) (fun t_32 =>
    bif Decidable.decide ((1 : Int) ≤ (↑(List.length s_19) : Int)) then
      some (Decidable.decide ((↑(List.length s_19) : Int) ≤ (60 : Int)))
    else
      some (Bool.false)))

def cellarerref02_Under_res (r : Bool) : AV := (fun (r_46 : Bool) => AV.bool r_46) r

def cellarerref02_Under_out (r : Bool) : List AO := (fun (r_46 : Bool) => []) r

noncomputable def cellarerref02_Under (dir_40 : List UInt8) (s_41 : List UInt8) : Option (Bool) :=
  if List.length dir_40 + List.length [(47 : UInt8)] ≤ (140737488355328 : Nat) then
    Option.bind (α := List UInt8) (
      bif Decidable.decide ((0 : Int) < (↑(List.length dir_40) : Int)) then
        if (0 : Int) ≤ IntKind.wrap IntKind.i64 ((↑(List.length dir_40) : Int) - (1 : Int)) ∧ IntKind.wrap IntKind.i64 ((↑(List.length dir_40) : Int) - (1 : Int)) < (↑(List.length dir_40) : Int) then
          bif Decidable.decide ((↑(UInt8.toNat (List.getD dir_40 (Int.toNat (IntKind.wrap IntKind.i64 ((↑(List.length dir_40) : Int) - (1 : Int)))) (0 : UInt8))) : Int) = (47 : Int)) then
            some (dir_40)
          else
            some (dir_40 ++ [(47 : UInt8)])
        else none
      else
        some (dir_40 ++ [(47 : UInt8)])) (fun t_43 =>
      bif Decidable.decide ((↑(List.length t_43) : Int) < (↑(List.length s_41) : Int)) then
        if (0 : Int) ≤ (0 : Int) ∧ (0 : Int) ≤ (↑(List.length t_43) : Int) ∧ (↑(List.length t_43) : Int) ≤ (↑(List.length s_41) : Int) then
          some (Decidable.decide (List.drop (Int.toNat (0 : Int)) (List.take (Int.toNat (↑(List.length t_43) : Int)) s_41) = t_43))
        else none
      else
        some (Bool.false))
  else none

def cellarerref02_Join_res (r : List UInt8) : AV := (fun (r_52 : List UInt8) => AV.str r_52) r

def cellarerref02_Join_out (r : List UInt8) : List AO := (fun (r_52 : List UInt8) => []) r

noncomputable def cellarerref02_Join (dir_49 : List UInt8) (name_50 : List UInt8) : Option (List UInt8) :=
  bif Decidable.decide ((0 : Int) < (↑(List.length dir_49) : Int)) then
    if (0 : Int) ≤ IntKind.wrap IntKind.i64 ((↑(List.length dir_49) : Int) - (1 : Int)) ∧ IntKind.wrap IntKind.i64 ((↑(List.length dir_49) : Int) - (1 : Int)) < (↑(List.length dir_49) : Int) then
      bif Decidable.decide ((↑(UInt8.toNat (List.getD dir_49 (Int.toNat (IntKind.wrap IntKind.i64 ((↑(List.length dir_49) : Int) - (1 : Int)))) (0 : UInt8))) : Int) = (47 : Int)) then
        if List.length dir_49 + List.length name_50 ≤ (140737488355328 : Nat) then
          some (dir_49 ++ name_50)
        else none
      else
        if List.length dir_49 + List.length [(47 : UInt8)] ≤ (140737488355328 : Nat) then
          if List.length (dir_49 ++ [(47 : UInt8)]) + List.length name_50 ≤ (140737488355328 : Nat) then
            some (dir_49 ++ [(47 : UInt8)] ++ name_50)
          else none
        else none
    else none
  else
    if List.length dir_49 + List.length [(47 : UInt8)] ≤ (140737488355328 : Nat) then
      if List.length (dir_49 ++ [(47 : UInt8)]) + List.length name_50 ≤ (140737488355328 : Nat) then
        some (dir_49 ++ [(47 : UInt8)] ++ name_50)
      else none
    else none

def cellarerref02_Split_res (r : List UInt8 × List UInt8) : AV := (fun (r_63 : List UInt8 × List UInt8) => AV.tup [AV.str (Prod.fst r_63), AV.str (Prod.snd r_63)]) r

def cellarerref02_Split_out (r : List UInt8 × List UInt8) : List AO := (fun (r_63 : List UInt8 × List UInt8) => []) r

noncomputable def cellarerref02_Split_b0 (s_55 : List UInt8) (s_64 : Int × Int) : Option ((Int × Int) ⊕ (Int)) :=
  bif Decidable.decide (Prod.snd s_64 < (↑(List.length s_55) : Int)) then
    if (0 : Int) ≤ Prod.snd s_64 ∧ Prod.snd s_64 < (↑(List.length s_55) : Int) then
      bif Decidable.decide ((↑(UInt8.toNat (List.getD s_55 (Int.toNat (Prod.snd s_64)) (0 : UInt8))) : Int) = (47 : Int)) then
        some (Sum.inl (Prod.snd s_64, IntKind.wrap IntKind.i64 (Prod.snd s_64 + (1 : Int))))
      else
        some (Sum.inl (Prod.fst s_64, IntKind.wrap IntKind.i64 (Prod.snd s_64 + (1 : Int))))
    else none
  else
    some (Sum.inr (Prod.fst s_64))

noncomputable def cellarerref02_Split (s_54 : List UInt8) : Option (List UInt8 × List UInt8) :=
  (iter (cellarerref02_Split_b0 (s_54)) ((-1 : Int), (0 : Int))).bind (fun t_59 =>
    bif Decidable.decide (t_59 < (0 : Int)) then
      some ([], s_54)
    else
      bif Decidable.decide (t_59 = (0 : Int)) then
        if (0 : Int) ≤ (1 : Int) ∧ (1 : Int) ≤ (↑(List.length s_54) : Int) ∧ (↑(List.length s_54) : Int) ≤ (↑(List.length s_54) : Int) then
          some ([(47 : UInt8)], List.drop (Int.toNat (1 : Int)) (List.take (Int.toNat (↑(List.length s_54) : Int)) s_54))
        else none
      else
        if (0 : Int) ≤ (0 : Int) ∧ (0 : Int) ≤ t_59 ∧ t_59 ≤ (↑(List.length s_54) : Int) then
          if (0 : Int) ≤ IntKind.wrap IntKind.i64 (t_59 + (1 : Int)) ∧ IntKind.wrap IntKind.i64 (t_59 + (1 : Int)) ≤ (↑(List.length s_54) : Int) ∧ (↑(List.length s_54) : Int) ≤ (↑(List.length s_54) : Int) then
            some (List.drop (Int.toNat (0 : Int)) (List.take (Int.toNat t_59) s_54), List.drop (Int.toNat (IntKind.wrap IntKind.i64 (t_59 + (1 : Int)))) (List.take (Int.toNat (↑(List.length s_54) : Int)) s_54))
          else none
        else none)

def bytealg_LastIndexByteString_res (r : Int) : AV := (fun (r_80 : Int) => AV.int IntKind.i64 r_80) r

def bytealg_LastIndexByteString_out (r : Int) : List AO := (fun (r_80 : Int) => []) r

noncomputable def bytealg_LastIndexByteString_b0 (s_72 : List UInt8) (c_73 : Int) (s_81 : Int) : Option ((Int) ⊕ (Int ⊕ Unit)) :=
  bif Decidable.decide ((0 : Int) ≤ s_81) then
    if (0 : Int) ≤ s_81 ∧ s_81 < (↑(List.length s_72) : Int) then
      bif Decidable.decide ((↑(UInt8.toNat (List.getD s_72 (Int.toNat s_81) (0 : UInt8))) : Int) = c_73) then
        some (Sum.inr (Sum.inl (s_81)))
      else
        some (Sum.inl (IntKind.wrap IntKind.i64 (s_81 - (1 : Int))))
    else none
  else
    some (Sum.inr (Sum.inr ()))

noncomputable def bytealg_LastIndexByteString (s_70 : List UInt8) (c_71 : Int) : Option (Int) :=
  (iter (bytealg_LastIndexByteString_b0 (s_70) (c_71)) (IntKind.wrap IntKind.i64 ((↑(List.length s_70) : Int) - (1 : Int)))).bind (Sum.elim (fun t_76 =>
    some (t_76)) (fun t_77 =>
    some ((-1 : Int))))

def strings_LastIndexByte_res (r : Int) : AV := (fun (r_85 : Int) => AV.int IntKind.i64 r_85) r

def strings_LastIndexByte_out (r : Int) : List AO := (fun (r_85 : Int) => []) r

noncomputable def strings_LastIndexByte (s_68 : List UInt8) (c_69 : Int) : Option (Int) :=
  (bytealg_LastIndexByteString (s_68) (c_69)).bind fun a_83 =>
    some (a_83)

def path_Split_res (r : List UInt8 × List UInt8) : AV := (fun (r_89 : List UInt8 × List UInt8) => AV.tup [AV.str (Prod.fst r_89), AV.str (Prod.snd r_89)]) r

def path_Split_out (r : List UInt8 × List UInt8) : List AO := (fun (r_89 : List UInt8 × List UInt8) => []) r

noncomputable def path_Split (s_67 : List UInt8) : Option (List UInt8 × List UInt8) :=
  (strings_LastIndexByte (s_67) ((47 : Int))).bind fun a_86 =>
    bif Decidable.decide (a_86 < (0 : Int)) then
      some ([], s_67)
    else
      bif Decidable.decide (a_86 = (0 : Int)) then
        if (0 : Int) ≤ (1 : Int) ∧ (1 : Int) ≤ (↑(List.length s_67) : Int) ∧ (↑(List.length s_67) : Int) ≤ (↑(List.length s_67) : Int) then
          some ([(47 : UInt8)], List.drop (Int.toNat (1 : Int)) (List.take (Int.toNat (↑(List.length s_67) : Int)) s_67))
        else none
      else
        if (0 : Int) ≤ (0 : Int) ∧ (0 : Int) ≤ a_86 ∧ a_86 ≤ (↑(List.length s_67) : Int) then
          if (0 : Int) ≤ IntKind.wrap IntKind.i64 (a_86 + (1 : Int)) ∧ IntKind.wrap IntKind.i64 (a_86 + (1 : Int)) ≤ (↑(List.length s_67) : Int) ∧ (↑(List.length s_67) : Int) ≤ (↑(List.length s_67) : Int) then
            some (List.drop (Int.toNat (0 : Int)) (List.take (Int.toNat a_86) s_67), List.drop (Int.toNat (IntKind.wrap IntKind.i64 (a_86 + (1 : Int)))) (List.take (Int.toNat (↑(List.length s_67) : Int)) s_67))
          else none
        else none

def cellarerref02_Same_res (r : Bool) : AV := (fun (r_101 : Bool) => AV.bool r_101) r

def cellarerref02_Same_out (r : Bool) : List AO := (fun (r_101 : Bool) => []) r

noncomputable def cellarerref02_Same_b0 (a_94 : List (List UInt8)) (b_95 : List (List UInt8)) (s_102 : Int) : Option ((Int) ⊕ (Unit ⊕ Unit)) :=
  bif Decidable.decide (s_102 < (↑(List.length a_94) : Int)) then
    if (0 : Int) ≤ s_102 ∧ s_102 < (↑(List.length a_94) : Int) then
      if (0 : Int) ≤ s_102 ∧ s_102 < (↑(List.length b_95) : Int) then
        bif !Decidable.decide (List.getD a_94 (Int.toNat s_102) [] = List.getD b_95 (Int.toNat s_102) []) then
          some (Sum.inr (Sum.inl ()))
        else
          some (Sum.inl (IntKind.wrap IntKind.i64 (s_102 + (1 : Int))))
      else none
    else none
  else
    some (Sum.inr (Sum.inr ()))

noncomputable def cellarerref02_Same (a_92 : List (List UInt8)) (b_93 : List (List UInt8)) : Option (Bool) :=
  bif !Decidable.decide ((↑(List.length a_92) : Int) = (↑(List.length b_93) : Int)) then
    some (Bool.false)
  else
    (iter (cellarerref02_Same_b0 (a_92) (b_93)) ((0 : Int))).bind (Sum.elim (fun t_97 =>
      some (Bool.false)) (fun t_98 =>
      some (Bool.true)))

def cellarerref02_Parts_res (r : List (List UInt8)) : AV := (fun (r_118 : List (List UInt8)) => AV.view (0 : Nat) (0 : Nat) Option.none) r

def cellarerref02_Parts_out (r : List (List UInt8)) : List AO := (fun (r_118 : List (List UInt8)) => [AO.row Ty.str r_118]) r

noncomputable def cellarerref02_Parts_b0 (s_109 : List UInt8) (s_119 : List UInt8 × Int × List (List UInt8)) : Option ((List UInt8 × Int × List (List UInt8)) ⊕ (List UInt8 × List (List UInt8))) :=
  bif Decidable.decide (Prod.fst (Prod.snd s_119) < (↑(List.length s_109) : Int)) then
    if (0 : Int) ≤ Prod.fst (Prod.snd s_119) ∧ Prod.fst (Prod.snd s_119) < (↑(List.length s_109) : Int) then
      bif !Decidable.decide ((↑(UInt8.toNat (List.getD s_109 (Int.toNat (Prod.fst (Prod.snd s_119))) (0 : UInt8))) : Int) = (47 : Int)) then
        if (0 : Int) ≤ Prod.fst (Prod.snd s_119) ∧ Prod.fst (Prod.snd s_119) ≤ IntKind.wrap IntKind.i64 (Prod.fst (Prod.snd s_119) + (1 : Int)) ∧ IntKind.wrap IntKind.i64 (Prod.fst (Prod.snd s_119) + (1 : Int)) ≤ (↑(List.length s_109) : Int) then
          if List.length (Prod.fst s_119) + List.length (List.drop (Int.toNat (Prod.fst (Prod.snd s_119))) (List.take (Int.toNat (IntKind.wrap IntKind.i64 (Prod.fst (Prod.snd s_119) + (1 : Int)))) s_109)) ≤ (140737488355328 : Nat) then
            some (Sum.inl (Prod.fst s_119 ++ List.drop (Int.toNat (Prod.fst (Prod.snd s_119))) (List.take (Int.toNat (IntKind.wrap IntKind.i64 (Prod.fst (Prod.snd s_119) + (1 : Int)))) s_109), IntKind.wrap IntKind.i64 (Prod.fst (Prod.snd s_119) + (1 : Int)), Prod.snd (Prod.snd s_119)))
          else none
        else none
      else
        bif !Decidable.decide (Prod.fst s_119 = []) then
          if (List.length (Prod.snd (Prod.snd s_119)) + List.length (List.drop (0 : Nat) [Prod.fst s_119])) * (16 : Nat) ≤ (17592186044416 : Nat) then
            some (Sum.inl ([], IntKind.wrap IntKind.i64 (Prod.fst (Prod.snd s_119) + (1 : Int)), Prod.snd (Prod.snd s_119) ++ List.drop (0 : Nat) [Prod.fst s_119]))
          else none
        else
          some (Sum.inl ([], IntKind.wrap IntKind.i64 (Prod.fst (Prod.snd s_119) + (1 : Int)), Prod.snd (Prod.snd s_119)))
    else none
  else
    some (Sum.inr (Prod.fst s_119, Prod.snd (Prod.snd s_119)))

noncomputable def cellarerref02_Parts (s_105 : List UInt8) : Option (List (List UInt8)) :=
  (iter (cellarerref02_Parts_b0 (s_105)) ([], (0 : Int), [])).bind (fun t_115 =>
    bif !Decidable.decide (Prod.fst t_115 = []) then
      if (List.length (Prod.snd t_115) + List.length (List.drop (0 : Nat) [Prod.fst t_115])) * (16 : Nat) ≤ (17592186044416 : Nat) then
        some (Prod.snd t_115 ++ List.drop (0 : Nat) [Prod.fst t_115])
      else none
    else
      some (Prod.snd t_115))

def cellarerref02_Joined_res (r : List UInt8) : AV := (fun (r_134 : List UInt8) => AV.str r_134) r

def cellarerref02_Joined_out (r : List UInt8) : List AO := (fun (r_134 : List UInt8) => []) r

noncomputable def cellarerref02_Joined_b0 (l_127 : List (List UInt8)) (s_135 : List UInt8 × Int) : Option ((List UInt8 × Int) ⊕ (List UInt8)) :=
  bif Decidable.decide (Prod.snd s_135 < (↑(List.length l_127) : Int)) then
    if List.length (Prod.fst s_135) + List.length [(47 : UInt8)] ≤ (140737488355328 : Nat) then
      if (0 : Int) ≤ Prod.snd s_135 ∧ Prod.snd s_135 < (↑(List.length l_127) : Int) then
        if List.length (Prod.fst s_135 ++ [(47 : UInt8)]) + List.length (List.getD l_127 (Int.toNat (Prod.snd s_135)) []) ≤ (140737488355328 : Nat) then
          some (Sum.inl (Prod.fst s_135 ++ [(47 : UInt8)] ++ List.getD l_127 (Int.toNat (Prod.snd s_135)) [], IntKind.wrap IntKind.i64 (Prod.snd s_135 + (1 : Int))))
        else none
      else none
    else none
  else
    some (Sum.inr (Prod.fst s_135))

noncomputable def cellarerref02_Joined (l_126 : List (List UInt8)) : Option (List UInt8) :=
  bif Decidable.decide ((↑(List.length l_126) : Int) = (0 : Int)) then
    some ([(47 : UInt8)])
  else
    (iter (cellarerref02_Joined_b0 (l_126)) ([], (0 : Int))).bind (fun t_131 =>
      some (t_131))

def cellarerref02_Parents_res (r : List (List UInt8)) : AV := (fun (r_146 : List (List UInt8)) => AV.view (0 : Nat) (0 : Nat) Option.none) r

def cellarerref02_Parents_out (r : List (List UInt8)) : List AO := (fun (r_146 : List (List UInt8)) => [AO.row Ty.str r_146]) r

noncomputable def cellarerref02_Parents_b0 (o0_139 : List (List UInt8)) (s_147 : Int × List (List UInt8)) : Option ((Int × List (List UInt8)) ⊕ (List (List UInt8))) :=
  bif Decidable.decide (Prod.fst s_147 < (↑(List.length o0_139) : Int) - (↑(0 : Nat) : Int)) then
    if (0 : Int) ≤ (0 : Int) ∧ (0 : Int) ≤ Prod.fst s_147 ∧ (↑(0 : Nat) : Int) + Prod.fst s_147 ≤ (↑(List.length o0_139) : Int) then
      (cellarerref02_Joined (List.drop (0 : Nat) (List.take ((0 : Nat) + Int.toNat (Prod.fst s_147)) o0_139))).bind fun a_141 =>
        if (List.length (Prod.snd s_147) + List.length (List.drop (0 : Nat) [a_141])) * (16 : Nat) ≤ (17592186044416 : Nat) then
          some (Sum.inl (IntKind.wrap IntKind.i64 (Prod.fst s_147 + (1 : Int)), Prod.snd s_147 ++ List.drop (0 : Nat) [a_141]))
        else none
    else none
  else
    some (Sum.inr (Prod.snd s_147))

noncomputable def cellarerref02_Parents (s_122 : List UInt8) : Option (List (List UInt8)) :=
  (cellarerref02_Parts (s_122)).bind fun a_123 =>
    (iter (cellarerref02_Parents_b0 (a_123)) ((0 : Int), [])).bind (fun t_143 =>
      some (t_143))

def cellarerref02_Clean_res (r : List UInt8 × Int) : AV := (fun (r_172 : List UInt8 × Int) => AV.tup [AV.str (Prod.fst r_172), AV.int IntKind.i64 (Prod.snd r_172)]) r

def cellarerref02_Clean_out (r : List UInt8 × Int) : List AO := (fun (r_172 : List UInt8 × Int) => []) r

noncomputable def cellarerref02_Clean_b0 (s_154 : List UInt8) (s_173 : Int) : Option ((Int) ⊕ (Unit ⊕ Unit)) :=
  bif Decidable.decide (s_173 < (↑(List.length s_154) : Int)) then
    if (0 : Int) ≤ s_173 ∧ s_173 < (↑(List.length s_154) : Int) then
      bif Decidable.decide ((↑(UInt8.toNat (List.getD s_154 (Int.toNat s_173) (0 : UInt8))) : Int) < (33 : Int)) then
        some (Sum.inr (Sum.inl ()))
      else
        if (0 : Int) ≤ s_173 ∧ s_173 < (↑(List.length s_154) : Int) then
          bif Decidable.decide ((126 : Int) < (↑(UInt8.toNat (List.getD s_154 (Int.toNat s_173) (0 : UInt8))) : Int)) then
            some (Sum.inr (Sum.inl ()))
          else
            some (Sum.inl (IntKind.wrap IntKind.i64 (s_173 + (1 : Int))))
        else none
    else none
  else
    some (Sum.inr (Sum.inr ()))

noncomputable def cellarerref02_Clean_b1 (o0_162 : List (List UInt8)) (s_174 : Int × List (List UInt8)) : Option ((Int × List (List UInt8)) ⊕ (List (List UInt8))) :=
  bif Decidable.decide (Prod.fst s_174 < (↑(List.length o0_162) : Int) - (↑(0 : Nat) : Int)) then
    if (0 : Int) ≤ Prod.fst s_174 ∧ Prod.fst s_174 + (↑(0 : Nat) : Int) < (↑(List.length o0_162) : Int) then
      if (0 : Nat) + Int.toNat (Prod.fst s_174) < List.length o0_162 then
        bif Decidable.decide (List.getD o0_162 ((0 : Nat) + Int.toNat (Prod.fst s_174)) [] = [(46 : UInt8), (46 : UInt8)]) then
          bif Decidable.decide ((0 : Int) < (↑(List.length (Prod.snd s_174)) : Int) - (↑(0 : Nat) : Int)) then
            if (0 : Int) ≤ (0 : Int) ∧ (0 : Int) ≤ IntKind.wrap IntKind.i64 ((↑(List.length (Prod.snd s_174)) : Int) - (↑(0 : Nat) : Int) - (1 : Int)) ∧ (↑(0 : Nat) : Int) + IntKind.wrap IntKind.i64 ((↑(List.length (Prod.snd s_174)) : Int) - (↑(0 : Nat) : Int) - (1 : Int)) ≤ (↑(List.length (Prod.snd s_174)) : Int) then
              some (Sum.inl (IntKind.wrap IntKind.i64 (Prod.fst s_174 + (1 : Int)), List.take ((0 : Nat) + Int.toNat (IntKind.wrap IntKind.i64 ((↑(List.length (Prod.snd s_174)) : Int) - (↑(0 : Nat) : Int) - (1 : Int)))) (Prod.snd s_174)))
            else none
          else
            some (Sum.inl (IntKind.wrap IntKind.i64 (Prod.fst s_174 + (1 : Int)), Prod.snd s_174))
        else
          if (0 : Int) ≤ Prod.fst s_174 ∧ Prod.fst s_174 + (↑(0 : Nat) : Int) < (↑(List.length o0_162) : Int) then
            if (0 : Nat) + Int.toNat (Prod.fst s_174) < List.length o0_162 then
              bif !Decidable.decide (List.getD o0_162 ((0 : Nat) + Int.toNat (Prod.fst s_174)) [] = [(46 : UInt8)]) then
                if (0 : Int) ≤ Prod.fst s_174 ∧ Prod.fst s_174 + (↑(0 : Nat) : Int) < (↑(List.length o0_162) : Int) then
                  if (0 : Nat) + Int.toNat (Prod.fst s_174) < List.length o0_162 then
                    if (List.length (Prod.snd s_174) + List.length (List.drop (0 : Nat) [List.getD o0_162 ((0 : Nat) + Int.toNat (Prod.fst s_174)) []])) * (16 : Nat) ≤ (17592186044416 : Nat) then
                      some (Sum.inl (IntKind.wrap IntKind.i64 (Prod.fst s_174 + (1 : Int)), Prod.snd s_174 ++ List.drop (0 : Nat) [List.getD o0_162 ((0 : Nat) + Int.toNat (Prod.fst s_174)) []]))
                    else none
                  else none
                else none
              else
                some (Sum.inl (IntKind.wrap IntKind.i64 (Prod.fst s_174 + (1 : Int)), Prod.snd s_174))
            else none
          else none
      else none
    else none
  else
    some (Sum.inr (Prod.snd s_174))

noncomputable def cellarerref02_Clean (s_151 : List UInt8) : Option (List UInt8 × Int) :=
  Option.bind (α := Unit ⊕ Unit) (
    bif Decidable.decide ((↑(List.length s_151) : Int) = (0 : Int)) then
      some (Sum.inl ())
    else
      if (0 : Int) ≤ (0 : Int) ∧ (0 : Int) < (↑(List.length s_151) : Int) then
        bif !Decidable.decide ((↑(UInt8.toNat (List.getD s_151 (Int.toNat (0 : Int)) (0 : UInt8))) : Int) = (47 : Int)) then
          some (Sum.inl ())
        else
          some (Sum.inr ())
      else none) (Sum.elim (fun t_152 =>
    some ([], (1 : Int))) (fun t_153 =>
    (iter (cellarerref02_Clean_b0 (s_151)) ((0 : Int))).bind (Sum.elim (fun t_156 =>
      some ([], (1 : Int))) (fun t_157 =>
      (cellarerref02_Parts (s_151)).bind fun a_158 =>
        (iter (cellarerref02_Clean_b1 (a_158)) ((0 : Int), [])).bind (fun t_165 =>
          (cellarerref02_Joined (List.drop (0 : Nat) t_165)).bind fun a_166 =>
            bif Decidable.decide ((200 : Int) < (↑(List.length a_166) : Int)) then
              some ([], (8 : Int))
            else
              some (a_166, (0 : Int)))))))

def cellarerref02_Right_res (r : Bool) : AV := (fun (r_181 : Bool) => AV.bool r_181) r

def cellarerref02_Right_out (r : Bool) : List AO := (fun (r_181 : Bool) => []) r

noncomputable def cellarerref02_Right (s_178 : List UInt8) : Option (Bool) :=
  (cellarerref02_Clean (s_178)).bind fun a_179 =>
    bif Decidable.decide (Prod.snd a_179 = (0 : Int)) then
      some (Decidable.decide (Prod.fst a_179 = s_178))
    else
      some (Bool.false)

def cellarerref02_Has_res (r : Bool) : AV := (fun (r_199 : Bool) => AV.bool r_199) r

def cellarerref02_Has_out (r : Bool) : List AO := (fun (r_199 : Bool) => []) r

noncomputable def cellarerref02_Has_b0 (l_192 : List (List UInt8)) (s_193 : List UInt8) (s_200 : Int) : Option ((Int) ⊕ (Unit ⊕ Unit)) :=
  bif Decidable.decide (s_200 < (↑(List.length l_192) : Int)) then
    if (0 : Int) ≤ s_200 ∧ s_200 < (↑(List.length l_192) : Int) then
      bif Decidable.decide (List.getD l_192 (Int.toNat s_200) [] = s_193) then
        some (Sum.inr (Sum.inl ()))
      else
        some (Sum.inl (IntKind.wrap IntKind.i64 (s_200 + (1 : Int))))
    else none
  else
    some (Sum.inr (Sum.inr ()))

noncomputable def cellarerref02_Has (l_190 : List (List UInt8)) (s_191 : List UInt8) : Option (Bool) :=
  (iter (cellarerref02_Has_b0 (l_190) (s_191)) ((0 : Int))).bind (Sum.elim (fun t_195 =>
    some (Bool.true)) (fun t_196 =>
    some (Bool.false)))

def cellarerref02_Sorted_res (r : List (List UInt8)) : AV := (fun (r_222 : List (List UInt8)) => AV.view (0 : Nat) (0 : Nat) Option.none) r

def cellarerref02_Sorted_out (r : List (List UInt8)) : List AO := (fun (r_222 : List (List UInt8)) => [AO.row Ty.str r_222]) r

noncomputable def cellarerref02_Sorted_b0 (l_209 : List (List UInt8)) (o0_213 : List (List UInt8)) (s_224 : Int × Int) : Option ((Int × Int) ⊕ (Int)) :=
  bif Decidable.decide (Prod.snd s_224 < (↑(List.length l_209) : Int)) then
    if (0 : Int) ≤ Prod.snd s_224 ∧ Prod.snd s_224 < (↑(List.length l_209) : Int) then
      (cellarerref02_Has (List.drop (0 : Nat) o0_213) (List.getD l_209 (Int.toNat (Prod.snd s_224)) [])).bind fun a_214 =>
        bif !a_214 then
          bif Decidable.decide (Prod.fst s_224 < (0 : Int)) then
            some (Sum.inl (Prod.snd s_224, IntKind.wrap IntKind.i64 (Prod.snd s_224 + (1 : Int))))
          else
            if (0 : Int) ≤ Prod.snd s_224 ∧ Prod.snd s_224 < (↑(List.length l_209) : Int) then
              if (0 : Int) ≤ Prod.fst s_224 ∧ Prod.fst s_224 < (↑(List.length l_209) : Int) then
                bif Go.Op.bytesLess (List.getD l_209 (Int.toNat (Prod.snd s_224)) []) (List.getD l_209 (Int.toNat (Prod.fst s_224)) []) then
                  some (Sum.inl (Prod.snd s_224, IntKind.wrap IntKind.i64 (Prod.snd s_224 + (1 : Int))))
                else
                  some (Sum.inl (Prod.fst s_224, IntKind.wrap IntKind.i64 (Prod.snd s_224 + (1 : Int))))
              else none
            else none
        else
          some (Sum.inl (Prod.fst s_224, IntKind.wrap IntKind.i64 (Prod.snd s_224 + (1 : Int))))
    else none
  else
    some (Sum.inr (Prod.fst s_224))

noncomputable def cellarerref02_Sorted_b1 (l_206 : List (List UInt8)) (s_223 : Int × List (List UInt8)) : Option ((Int × List (List UInt8)) ⊕ (List (List UInt8))) :=
  bif Decidable.decide (Prod.fst s_223 < (↑(List.length l_206) : Int)) then
    (iter (cellarerref02_Sorted_b0 (l_206) (Prod.snd s_223)) ((-1 : Int), (0 : Int))).bind (fun t_216 =>
      bif Decidable.decide ((0 : Int) ≤ t_216) then
        if (0 : Int) ≤ t_216 ∧ t_216 < (↑(List.length l_206) : Int) then
          if (List.length (Prod.snd s_223) + List.length (List.drop (0 : Nat) [List.getD l_206 (Int.toNat t_216) []])) * (16 : Nat) ≤ (17592186044416 : Nat) then
            some (Sum.inl (IntKind.wrap IntKind.i64 (Prod.fst s_223 + (1 : Int)), Prod.snd s_223 ++ List.drop (0 : Nat) [List.getD l_206 (Int.toNat t_216) []]))
          else none
        else none
      else
        some (Sum.inl (IntKind.wrap IntKind.i64 (Prod.fst s_223 + (1 : Int)), Prod.snd s_223)))
  else
    some (Sum.inr (Prod.snd s_223))

noncomputable def cellarerref02_Sorted (l_183 : List (List UInt8)) : Option (List (List UInt8)) :=
  (iter (cellarerref02_Sorted_b1 (l_183)) ((0 : Int), [])).bind (fun t_219 =>
    some (t_219))

def stringslite_HasSuffix_res (r : Bool) : AV := (fun (r_236 : Bool) => AV.bool r_236) r

def stringslite_HasSuffix_out (r : Bool) : List AO := (fun (r_236 : Bool) => []) r

noncomputable def stringslite_HasSuffix (s_233 : List UInt8) (suffix_234 : List UInt8) : Option (Bool) :=
  bif Decidable.decide ((↑(List.length suffix_234) : Int) ≤ (↑(List.length s_233) : Int)) then
    if (0 : Int) ≤ IntKind.wrap IntKind.i64 ((↑(List.length s_233) : Int) - (↑(List.length suffix_234) : Int)) ∧ IntKind.wrap IntKind.i64 ((↑(List.length s_233) : Int) - (↑(List.length suffix_234) : Int)) ≤ (↑(List.length s_233) : Int) ∧ (↑(List.length s_233) : Int) ≤ (↑(List.length s_233) : Int) then
      some (Decidable.decide (List.drop (Int.toNat (IntKind.wrap IntKind.i64 ((↑(List.length s_233) : Int) - (↑(List.length suffix_234) : Int)))) (List.take (Int.toNat (↑(List.length s_233) : Int)) s_233) = suffix_234))
    else none
  else
    some (Bool.false)

def strings_HasSuffix_res (r : Bool) : AV := (fun (r_239 : Bool) => AV.bool r_239) r

def strings_HasSuffix_out (r : Bool) : List AO := (fun (r_239 : Bool) => []) r

noncomputable def strings_HasSuffix (s_231 : List UInt8) (suffix_232 : List UInt8) : Option (Bool) :=
  (stringslite_HasSuffix (s_231) (suffix_232)).bind fun a_237 =>
    some (a_237)

def path_Join_res (r : List UInt8) : AV := (fun (r_242 : List UInt8) => AV.str r_242) r

def path_Join_out (r : List UInt8) : List AO := (fun (r_242 : List UInt8) => []) r

noncomputable def path_Join (dir_229 : List UInt8) (name_230 : List UInt8) : Option (List UInt8) :=
  (strings_HasSuffix (dir_229) ([(47 : UInt8)])).bind fun a_240 =>
    bif a_240 then
      if List.length dir_229 + List.length name_230 ≤ (140737488355328 : Nat) then
        some (dir_229 ++ name_230)
      else none
    else
      if List.length dir_229 + List.length [(47 : UInt8)] ≤ (140737488355328 : Nat) then
        if List.length (dir_229 ++ [(47 : UInt8)]) + List.length name_230 ≤ (140737488355328 : Nat) then
          some (dir_229 ++ [(47 : UInt8)] ++ name_230)
        else none
      else none

def stringslite_HasPrefix_res (r : Bool) : AV := (fun (r_253 : Bool) => AV.bool r_253) r

def stringslite_HasPrefix_out (r : Bool) : List AO := (fun (r_253 : Bool) => []) r

noncomputable def stringslite_HasPrefix (s_250 : List UInt8) (prefix_251 : List UInt8) : Option (Bool) :=
  bif Decidable.decide ((↑(List.length prefix_251) : Int) ≤ (↑(List.length s_250) : Int)) then
    if (0 : Int) ≤ (0 : Int) ∧ (0 : Int) ≤ (↑(List.length prefix_251) : Int) ∧ (↑(List.length prefix_251) : Int) ≤ (↑(List.length s_250) : Int) then
      some (Decidable.decide (List.drop (Int.toNat (0 : Int)) (List.take (Int.toNat (↑(List.length prefix_251) : Int)) s_250) = prefix_251))
    else none
  else
    some (Bool.false)

def strings_HasPrefix_res (r : Bool) : AV := (fun (r_256 : Bool) => AV.bool r_256) r

def strings_HasPrefix_out (r : Bool) : List AO := (fun (r_256 : Bool) => []) r

noncomputable def strings_HasPrefix (s_248 : List UInt8) (prefix_249 : List UInt8) : Option (Bool) :=
  (stringslite_HasPrefix (s_248) (prefix_249)).bind fun a_254 =>
    some (a_254)

def path_Under_res (r : Bool) : AV := (fun (r_259 : Bool) => AV.bool r_259) r

def path_Under_out (r : Bool) : List AO := (fun (r_259 : Bool) => []) r

noncomputable def path_Under (dir_245 : List UInt8) (s_246 : List UInt8) : Option (Bool) :=
  (path_Join (dir_245) ([])).bind fun a_247 =>
    (strings_HasPrefix (s_246) (a_247)).bind fun a_257 =>
      bif a_257 then
        some (Decidable.decide ((↑(List.length a_247) : Int) < (↑(List.length s_246) : Int)))
      else
        some (Bool.false)

def path_plain_res (r : Bool) : AV := (fun (r_270 : Bool) => AV.bool r_270) r

def path_plain_out (r : Bool) : List AO := (fun (r_270 : Bool) => []) r

noncomputable def path_plain_b0 (s_262 : List UInt8) (t_263 : Int) (s_271 : Int) : Option ((Int) ⊕ (Unit ⊕ Unit)) :=
  bif Decidable.decide (s_271 < t_263) then
    if (0 : Int) ≤ s_271 ∧ s_271 < (↑(List.length s_262) : Int) then
      bif Decidable.decide ((↑(UInt8.toNat (List.getD s_262 (Int.toNat s_271) (0 : UInt8))) : Int) < (33 : Int)) then
        some (Sum.inr (Sum.inl ()))
      else
        if (0 : Int) ≤ s_271 ∧ s_271 < (↑(List.length s_262) : Int) then
          bif Decidable.decide ((126 : Int) < (↑(UInt8.toNat (List.getD s_262 (Int.toNat s_271) (0 : UInt8))) : Int)) then
            some (Sum.inr (Sum.inl ()))
          else
            some (Sum.inl (IntKind.wrap IntKind.i64 (s_271 + (1 : Int))))
        else none
    else none
  else
    some (Sum.inr (Sum.inr ()))

noncomputable def path_plain (s_261 : List UInt8) : Option (Bool) :=
  (iter (path_plain_b0 (s_261) ((↑(List.length s_261) : Int))) ((0 : Int))).bind (Sum.elim (fun t_265 =>
    some (Bool.false)) (fun t_266 =>
    (strings_HasPrefix (s_261) ([(47 : UInt8)])).bind fun a_267 =>
      some (a_267)))

def stringslite_IndexByte_res (r : Int) : AV := (fun (r_311 : Int) => AV.int IntKind.i64 r_311) r

def stringslite_IndexByte_out (r : Int) : List AO := (fun (r_311 : Int) => []) r

noncomputable def stringslite_IndexByte (s_308 : List UInt8) (c_309 : Int) : Option (Int) :=
  if (0 : Int) ≤ c_309 ∧ c_309 < (256 : Int) then
    some (idxByte c_309 s_308 (0 : Int))
  else none

def stringslite_Index_res (r : Int) : AV := (fun (r_320 : Int) => AV.int IntKind.i64 r_320) r

def stringslite_Index_out (r : Int) : List AO := (fun (r_320 : Int) => []) r

noncomputable def stringslite_Index (s_313 : List UInt8) (substr_314 : List UInt8) : Option (Int) :=
  Option.bind (α := Int) (
    bif Decidable.decide ((↑(List.length substr_314) : Int) = (0 : Int)) then
      some ((0 : Int))
    else
      bif Decidable.decide (substr_314 = s_313) then
        some ((0 : Int))
      else
        bif Decidable.decide ((↑(List.length substr_314) : Int) = (1 : Int)) then
          if (0 : Int) ≤ (0 : Int) ∧ (0 : Int) < (↑(List.length substr_314) : Int) then
            (stringslite_IndexByte (s_313) ((↑(UInt8.toNat (List.getD substr_314 (Int.toNat (0 : Int)) (0 : UInt8))) : Int))).bind fun a_315 =>
              some (a_315)
          else none
        else
          bif Decidable.decide ((↑(List.length s_313) : Int) ≤ (↑(List.length substr_314) : Int)) then
            some ((-1 : Int))
          else
            none) (fun t_317 =>
    some (t_317))

def strings_Index_res (r : Int) : AV := (fun (r_323 : Int) => AV.int IntKind.i64 r_323) r

def strings_Index_out (r : Int) : List AO := (fun (r_323 : Int) => []) r

noncomputable def strings_Index (s_304 : List UInt8) (substr_305 : List UInt8) : Option (Int) :=
  (stringslite_Index (s_304) (substr_305)).bind fun a_321 =>
    some (a_321)

def strings_Count_res (r : Int) : AV := (fun (r_329 : Int) => AV.int IntKind.i64 r_329) r

def strings_Count_out (r : Int) : List AO := (fun (r_329 : Int) => []) r

noncomputable def strings_Count_b0 (substr_302 : List UInt8) (s_330 : List UInt8 × Int) : Option ((List UInt8 × Int) ⊕ (Int)) :=
  (strings_Index (Prod.fst s_330) (substr_302)).bind fun a_324 =>
    bif Decidable.decide (a_324 = (-1 : Int)) then
      some (Sum.inr (Prod.snd s_330))
    else
      if (0 : Int) ≤ IntKind.wrap IntKind.i64 (a_324 + (↑(List.length substr_302) : Int)) ∧ IntKind.wrap IntKind.i64 (a_324 + (↑(List.length substr_302) : Int)) ≤ (↑(List.length (Prod.fst s_330)) : Int) ∧ (↑(List.length (Prod.fst s_330)) : Int) ≤ (↑(List.length (Prod.fst s_330)) : Int) then
        some (Sum.inl (List.drop (Int.toNat (IntKind.wrap IntKind.i64 (a_324 + (↑(List.length substr_302) : Int)))) (List.take (Int.toNat (↑(List.length (Prod.fst s_330)) : Int)) (Prod.fst s_330)), IntKind.wrap IntKind.i64 (Prod.snd s_330 + (1 : Int))))
      else none

noncomputable def strings_Count (s_299 : List UInt8) (substr_300 : List UInt8) : Option (Int) :=
  bif Decidable.decide ((↑(List.length substr_300) : Int) = (0 : Int)) then
    none
  else
    bif Decidable.decide ((↑(List.length substr_300) : Int) = (1 : Int)) then
      if (0 : Int) ≤ (0 : Int) ∧ (0 : Int) < (↑(List.length substr_300) : Int) then
        some ((↑(List.count (Nat.toUInt8 (Int.toNat (↑(UInt8.toNat (List.getD substr_300 (Int.toNat (0 : Int)) (0 : UInt8))) : Int))) s_299) : Int))
      else none
    else
      (iter (strings_Count_b0 (substr_300)) (s_299, (0 : Int))).bind (fun t_326 =>
        some (t_326))

def strings_genSplit_res (r : List (List UInt8)) : AV := (fun (r_349 : List (List UInt8)) => AV.view (0 : Nat) (0 : Nat) Option.none) r

def strings_genSplit_out (r : List (List UInt8)) : List AO := (fun (r_349 : List (List UInt8)) => [AO.row Ty.str r_349]) r

noncomputable def strings_genSplit_b0 (sep_336 : List UInt8) (sepSave_337 : Int) (n_338 : Int) (s_350 : List UInt8 × Int × List (List UInt8)) : Option ((List UInt8 × Int × List (List UInt8)) ⊕ (List UInt8 × Int × List (List UInt8))) :=
  bif Decidable.decide (Prod.fst (Prod.snd s_350) < n_338) then
    (strings_Index (Prod.fst s_350) (sep_336)).bind fun a_341 =>
      bif Decidable.decide (a_341 < (0 : Int)) then
        some (Sum.inr (Prod.fst s_350, Prod.fst (Prod.snd s_350), Prod.snd (Prod.snd s_350)))
      else
        if (0 : Int) ≤ (0 : Int) ∧ (0 : Int) ≤ IntKind.wrap IntKind.i64 (a_341 + sepSave_337) ∧ IntKind.wrap IntKind.i64 (a_341 + sepSave_337) ≤ (↑(List.length (Prod.fst s_350)) : Int) then
          if (0 : Int) ≤ Prod.fst (Prod.snd s_350) ∧ Prod.fst (Prod.snd s_350) + (↑(0 : Nat) : Int) < (↑(List.length (Prod.snd (Prod.snd s_350))) : Int) then
            if (0 : Nat) + Int.toNat (Prod.fst (Prod.snd s_350)) < List.length (Prod.snd (Prod.snd s_350)) then
              if (0 : Int) ≤ IntKind.wrap IntKind.i64 (a_341 + (↑(List.length sep_336) : Int)) ∧ IntKind.wrap IntKind.i64 (a_341 + (↑(List.length sep_336) : Int)) ≤ (↑(List.length (Prod.fst s_350)) : Int) ∧ (↑(List.length (Prod.fst s_350)) : Int) ≤ (↑(List.length (Prod.fst s_350)) : Int) then
                some (Sum.inl (List.drop (Int.toNat (IntKind.wrap IntKind.i64 (a_341 + (↑(List.length sep_336) : Int)))) (List.take (Int.toNat (↑(List.length (Prod.fst s_350)) : Int)) (Prod.fst s_350)), IntKind.wrap IntKind.i64 (Prod.fst (Prod.snd s_350) + (1 : Int)), List.set (Prod.snd (Prod.snd s_350)) ((0 : Nat) + Int.toNat (Prod.fst (Prod.snd s_350))) (List.drop (Int.toNat (0 : Int)) (List.take (Int.toNat (IntKind.wrap IntKind.i64 (a_341 + sepSave_337))) (Prod.fst s_350)))))
              else none
            else none
          else none
        else none
  else
    some (Sum.inr (Prod.fst s_350, Prod.fst (Prod.snd s_350), Prod.snd (Prod.snd s_350)))

noncomputable def strings_genSplit (s_293 : List UInt8) (sep_294 : List UInt8) (sepSave_295 : Int) (n_296 : Int) : Option (List (List UInt8)) :=
  bif Decidable.decide (n_296 = (0 : Int)) then
    some ([])
  else
    bif Decidable.decide (sep_294 = []) then
      none
    else
      Option.bind (α := Int) (
        bif Decidable.decide (n_296 < (0 : Int)) then
          (strings_Count (s_293) (sep_294)).bind fun a_332 =>
            some (IntKind.wrap IntKind.i64 (a_332 + (1 : Int)))
        else
          some (n_296)) (fun t_334 =>
        if ((0 : Int) ≤ if IntKind.wrap IntKind.i64 ((↑(List.length s_293) : Int) + (1 : Int)) < t_334 then IntKind.wrap IntKind.i64 ((↑(List.length s_293) : Int) + (1 : Int)) else t_334) ∧ ((if IntKind.wrap IntKind.i64 ((↑(List.length s_293) : Int) + (1 : Int)) < t_334 then IntKind.wrap IntKind.i64 ((↑(List.length s_293) : Int) + (1 : Int)) else t_334) ≤ if IntKind.wrap IntKind.i64 ((↑(List.length s_293) : Int) + (1 : Int)) < t_334 then IntKind.wrap IntKind.i64 ((↑(List.length s_293) : Int) + (1 : Int)) else t_334) ∧ (if IntKind.wrap IntKind.i64 ((↑(List.length s_293) : Int) + (1 : Int)) < t_334 then IntKind.wrap IntKind.i64 ((↑(List.length s_293) : Int) + (1 : Int)) else t_334) ≤ (140737488355328 : Int) ∧ ((↑(16 : Nat) : Int) * if IntKind.wrap IntKind.i64 ((↑(List.length s_293) : Int) + (1 : Int)) < t_334 then IntKind.wrap IntKind.i64 ((↑(List.length s_293) : Int) + (1 : Int)) else t_334) ≤ (140737488355328 : Int) then
          (iter (strings_genSplit_b0 (sep_294) (sepSave_295) (IntKind.wrap IntKind.i64 ((if IntKind.wrap IntKind.i64 ((↑(List.length s_293) : Int) + (1 : Int)) < t_334 then IntKind.wrap IntKind.i64 ((↑(List.length s_293) : Int) + (1 : Int)) else t_334) - (1 : Int)))) (s_293, (0 : Int), List.replicate (Int.toNat (if IntKind.wrap IntKind.i64 ((↑(List.length s_293) : Int) + (1 : Int)) < t_334 then IntKind.wrap IntKind.i64 ((↑(List.length s_293) : Int) + (1 : Int)) else t_334)) [])).bind (fun t_345 =>
            if (0 : Int) ≤ Prod.fst (Prod.snd t_345) ∧ Prod.fst (Prod.snd t_345) + (↑(0 : Nat) : Int) < (↑(List.length (Prod.snd (Prod.snd t_345))) : Int) then
              if (0 : Nat) + Int.toNat (Prod.fst (Prod.snd t_345)) < List.length (Prod.snd (Prod.snd t_345)) then
                if (0 : Int) ≤ (0 : Int) ∧ (0 : Int) ≤ IntKind.wrap IntKind.i64 (Prod.fst (Prod.snd t_345) + (1 : Int)) ∧ (↑(0 : Nat) : Int) + IntKind.wrap IntKind.i64 (Prod.fst (Prod.snd t_345) + (1 : Int)) ≤ (↑(List.length (List.set (Prod.snd (Prod.snd t_345)) ((0 : Nat) + Int.toNat (Prod.fst (Prod.snd t_345))) (Prod.fst t_345))) : Int) then
                  some (List.take ((0 : Nat) + Int.toNat (IntKind.wrap IntKind.i64 (Prod.fst (Prod.snd t_345) + (1 : Int)))) (List.set (Prod.snd (Prod.snd t_345)) ((0 : Nat) + Int.toNat (Prod.fst (Prod.snd t_345))) (Prod.fst t_345)))
                else none
              else none
            else none)
        else none)

def strings_Split_res (r : List (List UInt8)) : AV := (fun (r_354 : List (List UInt8)) => AV.view (0 : Nat) (0 : Nat) Option.none) r

def strings_Split_out (r : List (List UInt8)) : List AO := (fun (r_354 : List (List UInt8)) => [AO.row Ty.str r_354]) r

noncomputable def strings_Split (s_281 : List UInt8) (sep_282 : List UInt8) : Option (List (List UInt8)) :=
  (strings_genSplit (s_281) (sep_282) ((0 : Int)) ((-1 : Int))).bind fun a_352 =>
    some (a_352)

def path_Parts_1_res (r : Bool) : AV := (fun (r_366 : Bool) => AV.bool r_366) r

def path_Parts_1_out (r : Bool) : List AO := (fun (r_366 : Bool) => []) r

noncomputable def path_Parts_1 (p_364 : List UInt8) : Option (Bool) :=
  some (!Decidable.decide (p_364 = []))

def path_keep_string__res (r : List (List UInt8)) : AV := (fun (r_377 : List (List UInt8)) => AV.view (0 : Nat) (0 : Nat) Option.none) r

def path_keep_string__out (r : List (List UInt8)) : List AO := (fun (r_377 : List (List UInt8)) => [AO.row Ty.str r_377]) r

noncomputable def path_keep_string__b0 (t_368 : List (List UInt8)) (t_369 : Int) (s_378 : Int × List (List UInt8)) : Option ((Int × List (List UInt8)) ⊕ (List (List UInt8))) :=
  bif Decidable.decide (Prod.fst s_378 < t_369) then
    if (0 : Int) ≤ Prod.fst s_378 ∧ Prod.fst s_378 < (↑(List.length t_368) : Int) then
      (path_Parts_1 (List.getD t_368 (Int.toNat (Prod.fst s_378)) [])).bind fun a_372 =>
        bif a_372 then
          if (List.length (Prod.snd s_378) + List.length (List.drop (0 : Nat) [List.getD t_368 (Int.toNat (Prod.fst s_378)) []])) * (16 : Nat) ≤ (17592186044416 : Nat) then
            some (Sum.inl (IntKind.wrap IntKind.i64 (Prod.fst s_378 + (1 : Int)), Prod.snd s_378 ++ List.drop (0 : Nat) [List.getD t_368 (Int.toNat (Prod.fst s_378)) []]))
          else none
        else
          some (Sum.inl (IntKind.wrap IntKind.i64 (Prod.fst s_378 + (1 : Int)), Prod.snd s_378))
    else none
  else
    some (Sum.inr (Prod.snd s_378))

noncomputable def path_keep_string_ (l_360 : List (List UInt8)) : Option (List (List UInt8)) :=
  (iter (path_keep_string__b0 (l_360) ((↑(List.length l_360) : Int))) ((0 : Int), [])).bind (fun t_374 =>
    some (t_374))

def path_Parts_res (r : List (List UInt8)) : AV := (fun (r_382 : List (List UInt8)) => AV.view (0 : Nat) (0 : Nat) Option.none) r

def path_Parts_out (r : List (List UInt8)) : List AO := (fun (r_382 : List (List UInt8)) => [AO.row Ty.str r_382]) r

noncomputable def path_Parts (s_358 : List UInt8) : Option (List (List UInt8)) :=
  (strings_Split (s_358) ([(47 : UInt8)])).bind fun a_359 =>
    (path_keep_string_ (List.drop (0 : Nat) a_359)).bind fun a_380 =>
      some (a_380)

def path_Clean_res (r : List UInt8 × Int) : AV := (fun (r_400 : List UInt8 × Int) => AV.tup [AV.str (Prod.fst r_400), AV.int IntKind.i64 (Prod.snd r_400)]) r

def path_Clean_out (r : List UInt8 × Int) : List AO := (fun (r_400 : List UInt8 × Int) => []) r

noncomputable def path_Clean_b0 (t_390 : Int) (o1_393 : List (List UInt8)) (s_401 : Int × List (List UInt8)) : Option ((Int × List (List UInt8)) ⊕ (List (List UInt8))) :=
  bif Decidable.decide (Prod.fst s_401 < t_390) then
    if (0 : Int) ≤ Prod.fst s_401 ∧ Prod.fst s_401 + (↑(0 : Nat) : Int) < (↑(List.length o1_393) : Int) then
      if (0 : Nat) + Int.toNat (Prod.fst s_401) < List.length o1_393 then
        bif Decidable.decide (List.getD o1_393 ((0 : Nat) + Int.toNat (Prod.fst s_401)) [] = [(46 : UInt8)]) then
          some (Sum.inl (IntKind.wrap IntKind.i64 (Prod.fst s_401 + (1 : Int)), Prod.snd s_401))
        else
          bif Decidable.decide (List.getD o1_393 ((0 : Nat) + Int.toNat (Prod.fst s_401)) [] = [(46 : UInt8), (46 : UInt8)]) then
            if (0 : Int) ≤ (0 : Int) ∧ (0 : Int) ≤ IntKind.wrap IntKind.i64 ((if (1 : Int) > (↑(List.length (Prod.snd s_401)) : Int) - (↑(0 : Nat) : Int) then (1 : Int) else (↑(List.length (Prod.snd s_401)) : Int) - (↑(0 : Nat) : Int)) - (1 : Int)) ∧ (↑(0 : Nat) : Int) + IntKind.wrap IntKind.i64 ((if (1 : Int) > (↑(List.length (Prod.snd s_401)) : Int) - (↑(0 : Nat) : Int) then (1 : Int) else (↑(List.length (Prod.snd s_401)) : Int) - (↑(0 : Nat) : Int)) - (1 : Int)) ≤ (↑(List.length (Prod.snd s_401)) : Int) then
              some (Sum.inl (IntKind.wrap IntKind.i64 (Prod.fst s_401 + (1 : Int)), List.take ((0 : Nat) + Int.toNat (IntKind.wrap IntKind.i64 ((if (1 : Int) > (↑(List.length (Prod.snd s_401)) : Int) - (↑(0 : Nat) : Int) then (1 : Int) else (↑(List.length (Prod.snd s_401)) : Int) - (↑(0 : Nat) : Int)) - (1 : Int)))) (Prod.snd s_401)))
            else none
          else
            if (List.length (Prod.snd s_401) + List.length (List.drop (0 : Nat) [List.getD o1_393 ((0 : Nat) + Int.toNat (Prod.fst s_401)) []])) * (16 : Nat) ≤ (17592186044416 : Nat) then
              some (Sum.inl (IntKind.wrap IntKind.i64 (Prod.fst s_401 + (1 : Int)), Prod.snd s_401 ++ List.drop (0 : Nat) [List.getD o1_393 ((0 : Nat) + Int.toNat (Prod.fst s_401)) []]))
            else none
      else none
    else none
  else
    some (Sum.inr (Prod.snd s_401))

noncomputable def path_Clean (s_384 : List UInt8) : Option (List UInt8 × Int) :=
  (path_plain (s_384)).bind fun a_385 =>
    bif !a_385 then
      some ([], (1 : Int))
    else
      (path_Parts (s_384)).bind fun a_386 =>
        (iter (path_Clean_b0 ((↑(List.length a_386) : Int) - (↑(0 : Nat) : Int)) (a_386)) ((0 : Int), [])).bind (fun t_395 =>
          (strings_Join (List.drop (0 : Nat) t_395) ([(47 : UInt8)])).bind fun a_396 =>
            if List.length [(47 : UInt8)] + List.length a_396 ≤ (140737488355328 : Nat) then
              bif Decidable.decide ((200 : Int) < (↑(List.length ([(47 : UInt8)] ++ a_396)) : Int)) then
                some ([], (8 : Int))
              else
                some ([(47 : UInt8)] ++ a_396, (0 : Int))
            else none)

def path_Right_res (r : Bool) : AV := (fun (r_407 : Bool) => AV.bool r_407) r

def path_Right_out (r : Bool) : List AO := (fun (r_407 : Bool) => []) r

noncomputable def path_Right (s_404 : List UInt8) : Option (Bool) :=
  (path_Clean (s_404)).bind fun a_405 =>
    bif Decidable.decide (Prod.snd a_405 = (0 : Int)) then
      some (Decidable.decide (Prod.fst a_405 = s_404))
    else
      some (Bool.false)

def path_Parents_res (r : List (List UInt8)) : AV := (fun (r_426 : List (List UInt8)) => AV.view (0 : Nat) (0 : Nat) Option.none) r

def path_Parents_out (r : List (List UInt8)) : List AO := (fun (r_426 : List (List UInt8)) => [AO.row Ty.str r_426]) r

noncomputable def path_Parents_b0 (t_417 : Int) (o0_419 : List (List UInt8)) (s_427 : List UInt8 × Int × List (List UInt8)) : Option ((List UInt8 × Int × List (List UInt8)) ⊕ (List (List UInt8))) :=
  bif Decidable.decide (Prod.fst (Prod.snd s_427) < t_417) then
    if (0 : Int) ≤ Prod.fst (Prod.snd s_427) ∧ Prod.fst (Prod.snd s_427) + (↑(0 : Nat) : Int) < (↑(List.length o0_419) : Int) then
      if (0 : Nat) + Int.toNat (Prod.fst (Prod.snd s_427)) < List.length o0_419 then
        if (List.length (Prod.snd (Prod.snd s_427)) + List.length (List.drop (0 : Nat) [Prod.fst s_427])) * (16 : Nat) ≤ (17592186044416 : Nat) then
          bif Decidable.decide (IntKind.wrap IntKind.i64 (Prod.fst (Prod.snd s_427) + (1 : Int)) < (↑(List.length o0_419) : Int) - (↑(0 : Nat) : Int)) then
            (path_Join (Prod.fst s_427) (List.getD o0_419 ((0 : Nat) + Int.toNat (Prod.fst (Prod.snd s_427))) [])).bind fun a_421 =>
              some (Sum.inl (a_421, IntKind.wrap IntKind.i64 (Prod.fst (Prod.snd s_427) + (1 : Int)), Prod.snd (Prod.snd s_427) ++ List.drop (0 : Nat) [Prod.fst s_427]))
          else
            some (Sum.inl (Prod.fst s_427, IntKind.wrap IntKind.i64 (Prod.fst (Prod.snd s_427) + (1 : Int)), Prod.snd (Prod.snd s_427) ++ List.drop (0 : Nat) [Prod.fst s_427]))
        else none
      else none
    else none
  else
    some (Sum.inr (Prod.snd (Prod.snd s_427)))

noncomputable def path_Parents (s_409 : List UInt8) : Option (List (List UInt8)) :=
  (path_Parts (s_409)).bind fun a_410 =>
    (iter (path_Parents_b0 ((↑(List.length a_410) : Int) - (↑(0 : Nat) : Int)) (a_410)) ([(47 : UInt8)], (0 : Int), [])).bind (fun t_423 =>
      some (t_423))

def cellarerlaw02_awake_res (r : Bool) : AV := (fun (r_434 : Bool) => AV.bool r_434) r

def cellarerlaw02_awake_out (r : Bool) : List AO := (fun (r_434 : Bool) => []) r

noncomputable def cellarerlaw02_awake  : Option (Bool) :=
  (path_Clean ([(47 : UInt8), (97 : UInt8), (47 : UInt8), (47 : UInt8), (98 : UInt8), (47 : UInt8), (46 : UInt8), (46 : UInt8), (47 : UInt8), (99 : UInt8), (47 : UInt8), (46 : UInt8)])).bind fun a_429 =>
    bif Decidable.decide (Prod.fst a_429 = [(47 : UInt8), (97 : UInt8), (47 : UInt8), (99 : UInt8)]) then
      bif Decidable.decide (Prod.snd a_429 = (0 : Int)) then
        (path_Right ([(47 : UInt8), (97 : UInt8), (47 : UInt8), (99 : UInt8)])).bind fun a_430 =>
          bif a_430 then
            (path_Name ([(97 : UInt8)])).bind fun a_431 =>
              bif a_431 then
                (path_Under ([(47 : UInt8)]) ([(47 : UInt8), (97 : UInt8)])).bind fun a_432 =>
                  some (a_432)
              else
                some (Bool.false)
          else
            some (Bool.false)
      else
        some (Bool.false)
    else
      some (Bool.false)

def cellarerlaw02_PathCleans_res (r : Bool) : AV := (fun (r_449 : Bool) => AV.bool r_449) r

def cellarerlaw02_PathCleans_out (r : Bool) : List AO := (fun (r_449 : Bool) => []) r

noncomputable def cellarerlaw02_PathCleans (s_436 : List UInt8) : Option (Bool) :=
  bif Decidable.decide ((2000 : Int) < (↑(List.length s_436) : Int)) then
    (cellarerlaw02_awake ).bind fun a_437 =>
      some (a_437)
  else
    (path_Clean (s_436)).bind fun a_438 =>
      (cellarerref02_Clean (s_436)).bind fun a_439 =>
        Option.bind (α := Unit ⊕ Unit) (
          bif !Decidable.decide (Prod.fst a_438 = Prod.fst a_439) then
            some (Sum.inl ())
          else
            bif !Decidable.decide (Prod.snd a_438 = Prod.snd a_439) then
              some (Sum.inl ())
            else
              (path_Right (s_436)).bind fun a_440 =>
                (cellarerref02_Right (s_436)).bind fun a_441 =>
                  bif !Decidable.decide (a_440 = a_441) then
                    some (Sum.inl ())
                  else
                    some (Sum.inr ())) (Sum.elim (fun t_442 =>
          some (Bool.false)) (fun t_443 =>
          bif !Decidable.decide (Prod.snd a_438 = (0 : Int)) then
            (cellarerlaw02_awake ).bind fun a_444 =>
              some (a_444)
          else
            (path_Right (Prod.fst a_438)).bind fun a_445 =>
              bif a_445 then
                (cellarerlaw02_awake ).bind fun a_446 =>
                  some (a_446)
              else
                some (Bool.false)))

def cellarerlaw02_PathNames_res (r : Bool) : AV := (fun (r_457 : Bool) => AV.bool r_457) r

def cellarerlaw02_PathNames_out (r : Bool) : List AO := (fun (r_457 : Bool) => []) r

noncomputable def cellarerlaw02_PathNames (s_451 : List UInt8) : Option (Bool) :=
  bif Decidable.decide ((2000 : Int) < (↑(List.length s_451) : Int)) then
    (cellarerlaw02_awake ).bind fun a_452 =>
      some (a_452)
  else
    (path_Name (s_451)).bind fun a_453 =>
      (cellarerref02_Name (s_451)).bind fun a_454 =>
        bif Decidable.decide (a_453 = a_454) then
          (cellarerlaw02_awake ).bind fun a_455 =>
            some (a_455)
        else
          some (Bool.false)

def cellarerlaw02_PathUnder_res (r : Bool) : AV := (fun (r_475 : Bool) => AV.bool r_475) r

def cellarerlaw02_PathUnder_out (r : Bool) : List AO := (fun (r_475 : Bool) => []) r

noncomputable def cellarerlaw02_PathUnder (dir_460 : List UInt8) (s_461 : List UInt8) : Option (Bool) :=
  Option.bind (α := Bool ⊕ Unit) (
    bif Decidable.decide ((2000 : Int) < (↑(List.length s_461) : Int)) then
      (cellarerlaw02_awake ).bind fun a_462 =>
        some (Sum.inl (a_462))
    else
      bif Decidable.decide ((2000 : Int) < (↑(List.length dir_460) : Int)) then
        (cellarerlaw02_awake ).bind fun a_463 =>
          some (Sum.inl (a_463))
      else
        some (Sum.inr ())) (Sum.elim (fun t_465 =>
    some (t_465)) (fun t_466 =>
    (path_Under (dir_460) (s_461)).bind fun a_467 =>
      (cellarerref02_Under (dir_460) (s_461)).bind fun a_468 =>
        bif Decidable.decide (a_467 = a_468) then
          (path_Under (s_461) (s_461)).bind fun a_469 =>
            bif !a_469 then
              bif !a_467 then
                (cellarerlaw02_awake ).bind fun a_470 =>
                  some (a_470)
              else
                (path_Under (s_461) (dir_460)).bind fun a_471 =>
                  bif !a_471 then
                    (cellarerlaw02_awake ).bind fun a_472 =>
                      some (a_472)
                  else
                    some (Bool.false)
            else
              some (Bool.false)
        else
          some (Bool.false)))

def cellarerlaw02_PathParts_res (r : Bool) : AV := (fun (r_503 : Bool) => AV.bool r_503) r

def cellarerlaw02_PathParts_out (r : Bool) : List AO := (fun (r_503 : Bool) => []) r

noncomputable def cellarerlaw02_PathParts_b0 (s_487 : List UInt8) (o0_489 : List (List UInt8)) (s_504 : Int) : Option ((Int) ⊕ (Unit ⊕ Unit)) :=
  bif Decidable.decide (s_504 < (↑(List.length o0_489) : Int) - (↑(0 : Nat) : Int)) then
    (path_Right (s_487)).bind fun a_490 =>
      bif a_490 then
        if (0 : Int) ≤ s_504 ∧ s_504 + (↑(0 : Nat) : Int) < (↑(List.length o0_489) : Int) then
          if (0 : Nat) + Int.toNat s_504 < List.length o0_489 then
            (path_Right (List.getD o0_489 ((0 : Nat) + Int.toNat s_504) [])).bind fun a_491 =>
              bif !a_491 then
                some (Sum.inr (Sum.inl ()))
              else
                if (0 : Int) ≤ s_504 ∧ s_504 + (↑(0 : Nat) : Int) < (↑(List.length o0_489) : Int) then
                  if (0 : Nat) + Int.toNat s_504 < List.length o0_489 then
                    (path_Under (List.getD o0_489 ((0 : Nat) + Int.toNat s_504) []) (s_487)).bind fun a_492 =>
                      bif !a_492 then
                        some (Sum.inr (Sum.inl ()))
                      else
                        some (Sum.inl (IntKind.wrap IntKind.i64 (s_504 + (1 : Int))))
                  else none
                else none
          else none
        else none
      else
        some (Sum.inl (IntKind.wrap IntKind.i64 (s_504 + (1 : Int))))
  else
    some (Sum.inr (Sum.inr ()))

noncomputable def cellarerlaw02_PathParts (s_477 : List UInt8) : Option (Bool) :=
  bif Decidable.decide ((1000 : Int) < (↑(List.length s_477) : Int)) then
    (cellarerlaw02_awake ).bind fun a_478 =>
      some (a_478)
  else
    (path_Parents (s_477)).bind fun a_479 =>
      Option.bind (α := Unit ⊕ Unit) (
        (path_Parts (s_477)).bind fun a_480 =>
          (cellarerref02_Parts (s_477)).bind fun a_481 =>
            (cellarerref02_Same (List.drop (0 : Nat) a_480) (List.drop (0 : Nat) a_481)).bind fun a_482 =>
              bif !a_482 then
                some (Sum.inl ())
              else
                (cellarerref02_Parents (s_477)).bind fun a_483 =>
                  (cellarerref02_Same (List.drop (0 : Nat) a_479) (List.drop (0 : Nat) a_483)).bind fun a_484 =>
                    bif !a_484 then
                      some (Sum.inl ())
                    else
                      some (Sum.inr ())) (Sum.elim (fun t_485 =>
        some (Bool.false)) (fun t_486 =>
        (iter (cellarerlaw02_PathParts_b0 (s_477) (a_479)) ((0 : Int))).bind (Sum.elim (fun t_493 =>
          some (Bool.false)) (fun t_494 =>
          (path_Right (s_477)).bind fun a_495 =>
            bif !a_495 then
              (cellarerlaw02_awake ).bind fun a_496 =>
                some (a_496)
            else
              (path_Parts (s_477)).bind fun a_497 =>
                (cellarerref02_Joined (List.drop (0 : Nat) a_497)).bind fun a_498 =>
                  bif Decidable.decide (a_498 = s_477) then
                    (cellarerlaw02_awake ).bind fun a_499 =>
                      some (a_499)
                  else
                    some (Bool.false)))))

def cellarerlaw02_PathSplits_res (r : Bool) : AV := (fun (r_531 : Bool) => AV.bool r_531) r

def cellarerlaw02_PathSplits_out (r : Bool) : List AO := (fun (r_531 : Bool) => []) r

noncomputable def cellarerlaw02_PathSplits (s_509 : List UInt8) (dir_510 : List UInt8) (name_511 : List UInt8) : Option (Bool) :=
  Option.bind (α := Bool ⊕ Unit) (
    bif Decidable.decide ((2000 : Int) < (↑(List.length s_509) : Int)) then
      (cellarerlaw02_awake ).bind fun a_512 =>
        some (Sum.inl (a_512))
    else
      bif Decidable.decide ((2000 : Int) < (↑(List.length dir_510) : Int)) then
        (cellarerlaw02_awake ).bind fun a_513 =>
          some (Sum.inl (a_513))
      else
        bif Decidable.decide ((2000 : Int) < (↑(List.length name_511) : Int)) then
          (cellarerlaw02_awake ).bind fun a_514 =>
            some (Sum.inl (a_514))
        else
          some (Sum.inr ())) (Sum.elim (fun t_516 =>
    some (t_516)) (fun t_517 =>
    (path_Split (s_509)).bind fun a_518 =>
      (cellarerref02_Split (s_509)).bind fun a_519 =>
        Option.bind (α := Unit ⊕ Unit) (
          bif !Decidable.decide (Prod.fst a_518 = Prod.fst a_519) then
            some (Sum.inl ())
          else
            bif !Decidable.decide (Prod.snd a_518 = Prod.snd a_519) then
              some (Sum.inl ())
            else
              (path_Join (dir_510) (name_511)).bind fun a_520 =>
                (cellarerref02_Join (dir_510) (name_511)).bind fun a_521 =>
                  bif !Decidable.decide (a_520 = a_521) then
                    some (Sum.inl ())
                  else
                    some (Sum.inr ())) (Sum.elim (fun t_522 =>
          some (Bool.false)) (fun t_523 =>
          (path_Right (s_509)).bind fun a_524 =>
            bif !a_524 then
              (cellarerlaw02_awake ).bind fun a_525 =>
                some (a_525)
            else
              (path_Join (Prod.fst a_518) (Prod.snd a_518)).bind fun a_526 =>
                bif Decidable.decide (a_526 = s_509) then
                  (cellarerlaw02_awake ).bind fun a_527 =>
                    some (a_527)
                else
                  some (Bool.false)))))

end Go.Cellar
