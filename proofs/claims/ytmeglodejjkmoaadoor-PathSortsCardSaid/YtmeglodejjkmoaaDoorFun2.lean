/- The program's functions, as plain Lean functions: printed by a program out of the translation. No condition. -/
import Derived.Test.YtmeglodejjkmoaaDoorPs2
set_option maxRecDepth 4000
set_option synthInstance.maxHeartbeats 2000000
set_option synthInstance.maxSize 100000
set_option linter.unusedVariables false
namespace Go.Cellar
open Go

def path_Name_res (r : Bool) : AV := (fun (r_15 : Bool) => AV.bool r_15) r

def path_Name_out (r : Bool) : List AO := (fun (r_15 : Bool) => []) r

noncomputable def path_Name_b0 (s_4 : List UInt8) (t_5 : Int) (s_16 : Int) : Option ((Int) ⊕ (Unit ⊕ Unit)) :=
  bif Decidable.decide (s_16 < t_5) then
    if (0 : Int) ≤ s_16 ∧ s_16 < (↑(List.length s_4) : Int) then
      Option.bind (α := Bool) (
        bif Decidable.decide ((97 : Int) ≤ (↑(UInt8.toNat (List.getD s_4 (Int.toNat s_16) (0 : UInt8))) : Int)) then
          bif Decidable.decide ((↑(UInt8.toNat (List.getD s_4 (Int.toNat s_16) (0 : UInt8))) : Int) ≤ (122 : Int)) then
            some (Bool.true)
          else
            bif Decidable.decide ((48 : Int) ≤ (↑(UInt8.toNat (List.getD s_4 (Int.toNat s_16) (0 : UInt8))) : Int)) then
              some (Decidable.decide ((↑(UInt8.toNat (List.getD s_4 (Int.toNat s_16) (0 : UInt8))) : Int) ≤ (57 : Int)))
            else
              some (Bool.false)
        else
          bif Decidable.decide ((48 : Int) ≤ (↑(UInt8.toNat (List.getD s_4 (Int.toNat s_16) (0 : UInt8))) : Int)) then
            some (Decidable.decide ((↑(UInt8.toNat (List.getD s_4 (Int.toNat s_16) (0 : UInt8))) : Int) ≤ (57 : Int)))
          else
            some (Bool.false)) (fun t_8 =>
        bif !t_8 then
          bif Decidable.decide (s_16 = (0 : Int)) then
            some (Sum.inr (Sum.inl ()))
          else
            bif !Decidable.decide ((↑(UInt8.toNat (List.getD s_4 (Int.toNat s_16) (0 : UInt8))) : Int) = (43 : Int)) then
              bif !Decidable.decide ((↑(UInt8.toNat (List.getD s_4 (Int.toNat s_16) (0 : UInt8))) : Int) = (45 : Int)) then
                bif !Decidable.decide ((↑(UInt8.toNat (List.getD s_4 (Int.toNat s_16) (0 : UInt8))) : Int) = (46 : Int)) then
                  some (Sum.inr (Sum.inl ()))
                else
                  some (Sum.inl (IntKind.wrap IntKind.i64 (s_16 + (1 : Int))))
              else
                some (Sum.inl (IntKind.wrap IntKind.i64 (s_16 + (1 : Int))))
            else
              some (Sum.inl (IntKind.wrap IntKind.i64 (s_16 + (1 : Int))))
        else
          some (Sum.inl (IntKind.wrap IntKind.i64 (s_16 + (1 : Int)))))
    else none
  else
    some (Sum.inr (Sum.inr ()))

noncomputable def path_Name (s_1 : List UInt8) : Option (Bool) :=
  Option.bind (α := Unit ⊕ Unit) (
    bif Decidable.decide ((↑(List.length s_1) : Int) = (0 : Int)) then
      some (Sum.inl ())
    else
      bif Decidable.decide ((60 : Int) < (↑(List.length s_1) : Int)) then
        some (Sum.inl ())
      else
        some (Sum.inr ())) (Sum.elim (fun t_2 =>
    some (Bool.false)) (fun t_3 =>
    (iter (path_Name_b0 (s_1) ((↑(List.length s_1) : Int))) ((0 : Int))).bind (Sum.elim (fun t_10 =>
      some (Bool.false)) (fun t_11 =>
      some (Bool.true)))))

def cellarerref02_Name_res (r : Bool) : AV := (fun (r_35 : Bool) => AV.bool r_35) r

def cellarerref02_Name_out (r : Bool) : List AO := (fun (r_35 : Bool) => []) r

noncomputable def cellarerref02_Name_b0 (s_20 : List UInt8) (s_36 : Int) : Option ((Int) ⊕ (Unit ⊕ Unit)) :=
  bif Decidable.decide (s_36 < (↑(List.length s_20) : Int)) then
    if (0 : Int) ≤ s_36 ∧ s_36 < (↑(List.length s_20) : Int) then
      Option.bind (α := Bool) (
        bif Decidable.decide ((97 : Int) ≤ (↑(UInt8.toNat (List.getD s_20 (Int.toNat s_36) (0 : UInt8))) : Int)) then
          some (Decidable.decide ((↑(UInt8.toNat (List.getD s_20 (Int.toNat s_36) (0 : UInt8))) : Int) ≤ (122 : Int)))
        else
          some (Bool.false)) (fun t_23 =>
        Option.bind (α := Bool) (
          bif Decidable.decide ((48 : Int) ≤ (↑(UInt8.toNat (List.getD s_20 (Int.toNat s_36) (0 : UInt8))) : Int)) then
            some (Decidable.decide ((↑(UInt8.toNat (List.getD s_20 (Int.toNat s_36) (0 : UInt8))) : Int) ≤ (57 : Int)))
          else
            some (Bool.false)) (fun t_25 =>
          Option.bind (α := Bool) (
            bif Decidable.decide ((↑(UInt8.toNat (List.getD s_20 (Int.toNat s_36) (0 : UInt8))) : Int) = (43 : Int)) then
              some (Bool.true)
            else
              bif Decidable.decide ((↑(UInt8.toNat (List.getD s_20 (Int.toNat s_36) (0 : UInt8))) : Int) = (45 : Int)) then
                some (Bool.true)
              else
                some (Decidable.decide ((↑(UInt8.toNat (List.getD s_20 (Int.toNat s_36) (0 : UInt8))) : Int) = (46 : Int)))) (fun t_27 =>
            bif !t_23 then
              bif !t_25 then
                bif !t_27 then
                  some (Sum.inr (Sum.inl ()))
                else
                  bif t_27 then
                    bif Decidable.decide (s_36 = (0 : Int)) then
                      some (Sum.inr (Sum.inl ()))
                    else
                      some (Sum.inl (IntKind.wrap IntKind.i64 (s_36 + (1 : Int))))
                  else
                    some (Sum.inl (IntKind.wrap IntKind.i64 (s_36 + (1 : Int))))
              else
                bif t_27 then
                  bif Decidable.decide (s_36 = (0 : Int)) then
                    some (Sum.inr (Sum.inl ()))
                  else
                    some (Sum.inl (IntKind.wrap IntKind.i64 (s_36 + (1 : Int))))
                else
                  some (Sum.inl (IntKind.wrap IntKind.i64 (s_36 + (1 : Int))))
            else
              bif t_27 then
                bif Decidable.decide (s_36 = (0 : Int)) then
                  some (Sum.inr (Sum.inl ()))
                else
                  some (Sum.inl (IntKind.wrap IntKind.i64 (s_36 + (1 : Int))))
              else
                some (Sum.inl (IntKind.wrap IntKind.i64 (s_36 + (1 : Int)))))))
    else none
  else
    some (Sum.inr (Sum.inr ()))

noncomputable def cellarerref02_Name (s_19 : List UInt8) : Option (Bool) :=
  (iter (cellarerref02_Name_b0 (s_19)) ((0 : Int))).bind (Sum.elim (fun t_31 =>
    some (Bool.false)) (fun t_32 =>
    bif Decidable.decide ((1 : Int) ≤ (↑(List.length s_19) : Int)) then
      some (Decidable.decide ((↑(List.length s_19) : Int) ≤ (60 : Int)))
    else
      some (Bool.false)))

def cellarerref02_Under_res (r : Bool) : AV := (fun (r_46 : Bool) => AV.bool r_46) r

def cellarerref02_Under_out (r : Bool) : List AO := (fun (r_46 : Bool) => []) r

noncomputable def cellarerref02_Under (dir_40 : List UInt8) (s_41 : List UInt8) : Option (Bool) :=
  if List.length dir_40 + List.length ((fun (x : List UInt8) => x) [(47 : UInt8)]) ≤ (140737488355328 : Nat) then
    Option.bind (α := List UInt8) (
      bif Decidable.decide ((0 : Int) < (↑(List.length dir_40) : Int)) then
        if (0 : Int) ≤ IntKind.wrap IntKind.i64 ((↑(List.length dir_40) : Int) - (1 : Int)) ∧ IntKind.wrap IntKind.i64 ((↑(List.length dir_40) : Int) - (1 : Int)) < (↑(List.length dir_40) : Int) then
          bif Decidable.decide ((↑(UInt8.toNat (List.getD dir_40 (Int.toNat (IntKind.wrap IntKind.i64 ((↑(List.length dir_40) : Int) - (1 : Int)))) (0 : UInt8))) : Int) = (47 : Int)) then
            some (dir_40)
          else
            some (dir_40 ++ [(47 : UInt8)])
        else none
      else
        some (dir_40 ++ [(47 : UInt8)])) (fun t_43 =>
      bif Decidable.decide ((↑(List.length t_43) : Int) < (↑(List.length s_41) : Int)) then
        if (0 : Int) ≤ (0 : Int) ∧ (0 : Int) ≤ (↑(List.length t_43) : Int) ∧ (↑(List.length t_43) : Int) ≤ (↑(List.length s_41) : Int) then
          some (Decidable.decide (List.drop (Int.toNat (0 : Int)) (List.take (Int.toNat (↑(List.length t_43) : Int)) s_41) = t_43))
        else none
      else
        some (Bool.false))
  else none

def cellarerref02_Join_res (r : List UInt8) : AV := (fun (r_52 : List UInt8) => AV.str r_52) r

def cellarerref02_Join_out (r : List UInt8) : List AO := (fun (r_52 : List UInt8) => []) r

noncomputable def cellarerref02_Join (dir_49 : List UInt8) (name_50 : List UInt8) : Option (List UInt8) :=
  bif Decidable.decide ((0 : Int) < (↑(List.length dir_49) : Int)) then
    if (0 : Int) ≤ IntKind.wrap IntKind.i64 ((↑(List.length dir_49) : Int) - (1 : Int)) ∧ IntKind.wrap IntKind.i64 ((↑(List.length dir_49) : Int) - (1 : Int)) < (↑(List.length dir_49) : Int) then
      bif Decidable.decide ((↑(UInt8.toNat (List.getD dir_49 (Int.toNat (IntKind.wrap IntKind.i64 ((↑(List.length dir_49) : Int) - (1 : Int)))) (0 : UInt8))) : Int) = (47 : Int)) then
        if List.length dir_49 + List.length name_50 ≤ (140737488355328 : Nat) then
          some (dir_49 ++ name_50)
        else none
      else
        if List.length dir_49 + List.length ((fun (x : List UInt8) => x) [(47 : UInt8)]) ≤ (140737488355328 : Nat) then
          if List.length (dir_49 ++ [(47 : UInt8)]) + List.length name_50 ≤ (140737488355328 : Nat) then
            some (dir_49 ++ [(47 : UInt8)] ++ name_50)
          else none
        else none
    else none
  else
    if List.length dir_49 + List.length ((fun (x : List UInt8) => x) [(47 : UInt8)]) ≤ (140737488355328 : Nat) then
      if List.length (dir_49 ++ [(47 : UInt8)]) + List.length name_50 ≤ (140737488355328 : Nat) then
        some (dir_49 ++ [(47 : UInt8)] ++ name_50)
      else none
    else none

def cellarerref02_Split_res (r : List UInt8 × List UInt8) : AV := (fun (r_63 : List UInt8 × List UInt8) => AV.tup [AV.str (Prod.fst r_63), AV.str (Prod.snd r_63)]) r

def cellarerref02_Split_out (r : List UInt8 × List UInt8) : List AO := (fun (r_63 : List UInt8 × List UInt8) => []) r

noncomputable def cellarerref02_Split_b0 (s_55 : List UInt8) (s_64 : Int × Int) : Option ((Int × Int) ⊕ (Int)) :=
  bif Decidable.decide (Prod.snd s_64 < (↑(List.length s_55) : Int)) then
    if (0 : Int) ≤ Prod.snd s_64 ∧ Prod.snd s_64 < (↑(List.length s_55) : Int) then
      bif Decidable.decide ((↑(UInt8.toNat (List.getD s_55 (Int.toNat (Prod.snd s_64)) (0 : UInt8))) : Int) = (47 : Int)) then
        some (Sum.inl (Prod.snd s_64, IntKind.wrap IntKind.i64 (Prod.snd s_64 + (1 : Int))))
      else
        some (Sum.inl (Prod.fst s_64, IntKind.wrap IntKind.i64 (Prod.snd s_64 + (1 : Int))))
    else none
  else
    some (Sum.inr (Prod.fst s_64))

noncomputable def cellarerref02_Split (s_54 : List UInt8) : Option (List UInt8 × List UInt8) :=
  (iter (cellarerref02_Split_b0 (s_54)) ((-1 : Int), (0 : Int))).bind (fun t_59 =>
    bif Decidable.decide (t_59 < (0 : Int)) then
      some ([], s_54)
    else
      bif Decidable.decide (t_59 = (0 : Int)) then
        if (0 : Int) ≤ (1 : Int) ∧ (1 : Int) ≤ (↑(List.length s_54) : Int) ∧ (↑(List.length s_54) : Int) ≤ (↑(List.length s_54) : Int) then
          some ([(47 : UInt8)], List.drop (Int.toNat (1 : Int)) (List.take (Int.toNat (↑(List.length s_54) : Int)) s_54))
        else none
      else
        if (0 : Int) ≤ (0 : Int) ∧ (0 : Int) ≤ t_59 ∧ t_59 ≤ (↑(List.length s_54) : Int) then
          if (0 : Int) ≤ IntKind.wrap IntKind.i64 (t_59 + (1 : Int)) ∧ IntKind.wrap IntKind.i64 (t_59 + (1 : Int)) ≤ (↑(List.length s_54) : Int) ∧ (↑(List.length s_54) : Int) ≤ (↑(List.length s_54) : Int) then
            some (List.drop (Int.toNat (0 : Int)) (List.take (Int.toNat t_59) s_54), List.drop (Int.toNat (IntKind.wrap IntKind.i64 (t_59 + (1 : Int)))) (List.take (Int.toNat (↑(List.length s_54) : Int)) s_54))
          else none
        else none)

def bytealg_LastIndexByteString_res (r : Int) : AV := (fun (r_80 : Int) => AV.int IntKind.i64 r_80) r

def bytealg_LastIndexByteString_out (r : Int) : List AO := (fun (r_80 : Int) => []) r

noncomputable def bytealg_LastIndexByteString_b0 (s_72 : List UInt8) (c_73 : Int) (s_81 : Int) : Option ((Int) ⊕ (Int ⊕ Unit)) :=
  bif Decidable.decide ((0 : Int) ≤ s_81) then
    if (0 : Int) ≤ s_81 ∧ s_81 < (↑(List.length s_72) : Int) then
      bif Decidable.decide ((↑(UInt8.toNat (List.getD s_72 (Int.toNat s_81) (0 : UInt8))) : Int) = c_73) then
        some (Sum.inr (Sum.inl (s_81)))
      else
        some (Sum.inl (IntKind.wrap IntKind.i64 (s_81 - (1 : Int))))
    else none
  else
    some (Sum.inr (Sum.inr ()))

noncomputable def bytealg_LastIndexByteString (s_70 : List UInt8) (c_71 : Int) : Option (Int) :=
  (iter (bytealg_LastIndexByteString_b0 (s_70) (c_71)) (IntKind.wrap IntKind.i64 ((↑(List.length s_70) : Int) - (1 : Int)))).bind (Sum.elim (fun t_76 =>
    some (t_76)) (fun t_77 =>
    some ((-1 : Int))))

def strings_LastIndexByte_res (r : Int) : AV := (fun (r_85 : Int) => AV.int IntKind.i64 r_85) r

def strings_LastIndexByte_out (r : Int) : List AO := (fun (r_85 : Int) => []) r

noncomputable def strings_LastIndexByte (s_68 : List UInt8) (c_69 : Int) : Option (Int) :=
  (bytealg_LastIndexByteString (s_68) (c_69)).bind fun a_83 =>
    some (a_83)

def path_Split_res (r : List UInt8 × List UInt8) : AV := (fun (r_89 : List UInt8 × List UInt8) => AV.tup [AV.str (Prod.fst r_89), AV.str (Prod.snd r_89)]) r

def path_Split_out (r : List UInt8 × List UInt8) : List AO := (fun (r_89 : List UInt8 × List UInt8) => []) r

noncomputable def path_Split (s_67 : List UInt8) : Option (List UInt8 × List UInt8) :=
  (strings_LastIndexByte (s_67) ((47 : Int))).bind fun a_86 =>
    bif Decidable.decide (a_86 < (0 : Int)) then
      some ([], s_67)
    else
      bif Decidable.decide (a_86 = (0 : Int)) then
        if (0 : Int) ≤ (1 : Int) ∧ (1 : Int) ≤ (↑(List.length s_67) : Int) ∧ (↑(List.length s_67) : Int) ≤ (↑(List.length s_67) : Int) then
          some ([(47 : UInt8)], List.drop (Int.toNat (1 : Int)) (List.take (Int.toNat (↑(List.length s_67) : Int)) s_67))
        else none
      else
        if (0 : Int) ≤ (0 : Int) ∧ (0 : Int) ≤ a_86 ∧ a_86 ≤ (↑(List.length s_67) : Int) then
          if (0 : Int) ≤ IntKind.wrap IntKind.i64 (a_86 + (1 : Int)) ∧ IntKind.wrap IntKind.i64 (a_86 + (1 : Int)) ≤ (↑(List.length s_67) : Int) ∧ (↑(List.length s_67) : Int) ≤ (↑(List.length s_67) : Int) then
            some (List.drop (Int.toNat (0 : Int)) (List.take (Int.toNat a_86) s_67), List.drop (Int.toNat (IntKind.wrap IntKind.i64 (a_86 + (1 : Int)))) (List.take (Int.toNat (↑(List.length s_67) : Int)) s_67))
          else none
        else none

def cellarerref02_Same_res (r : Bool) : AV := (fun (r_101 : Bool) => AV.bool r_101) r

def cellarerref02_Same_out (r : Bool) : List AO := (fun (r_101 : Bool) => []) r

noncomputable def cellarerref02_Same_b0 (a_94 : List (List UInt8)) (b_95 : List (List UInt8)) (s_102 : Int) : Option ((Int) ⊕ (Unit ⊕ Unit)) :=
  bif Decidable.decide (s_102 < (↑(List.length a_94) : Int)) then
    if (0 : Int) ≤ s_102 ∧ s_102 < (↑(List.length a_94) : Int) then
      if (0 : Int) ≤ s_102 ∧ s_102 < (↑(List.length b_95) : Int) then
        bif !Decidable.decide (List.getD a_94 (Int.toNat s_102) [] = List.getD b_95 (Int.toNat s_102) []) then
          some (Sum.inr (Sum.inl ()))
        else
          some (Sum.inl (IntKind.wrap IntKind.i64 (s_102 + (1 : Int))))
      else none
    else none
  else
    some (Sum.inr (Sum.inr ()))

noncomputable def cellarerref02_Same (a_92 : List (List UInt8)) (b_93 : List (List UInt8)) : Option (Bool) :=
  bif !Decidable.decide ((↑(List.length a_92) : Int) = (↑(List.length b_93) : Int)) then
    some (Bool.false)
  else
    (iter (cellarerref02_Same_b0 (a_92) (b_93)) ((0 : Int))).bind (Sum.elim (fun t_97 =>
      some (Bool.false)) (fun t_98 =>
      some (Bool.true)))

def cellarerref02_Parts_res (r : List (List UInt8)) : AV := (fun (r_118 : List (List UInt8)) => AV.view (0 : Nat) (0 : Nat) Option.none) r

def cellarerref02_Parts_out (r : List (List UInt8)) : List AO := (fun (r_118 : List (List UInt8)) => [AO.row Ty.str r_118]) r

noncomputable def cellarerref02_Parts_b0 (s_109 : List UInt8) (s_119 : List UInt8 × Int × List (List UInt8)) : Option ((List UInt8 × Int × List (List UInt8)) ⊕ (List UInt8 × List (List UInt8))) :=
  bif Decidable.decide (Prod.fst (Prod.snd s_119) < (↑(List.length s_109) : Int)) then
    if (0 : Int) ≤ Prod.fst (Prod.snd s_119) ∧ Prod.fst (Prod.snd s_119) < (↑(List.length s_109) : Int) then
      bif !Decidable.decide ((↑(UInt8.toNat (List.getD s_109 (Int.toNat (Prod.fst (Prod.snd s_119))) (0 : UInt8))) : Int) = (47 : Int)) then
        if (0 : Int) ≤ Prod.fst (Prod.snd s_119) ∧ Prod.fst (Prod.snd s_119) ≤ IntKind.wrap IntKind.i64 (Prod.fst (Prod.snd s_119) + (1 : Int)) ∧ IntKind.wrap IntKind.i64 (Prod.fst (Prod.snd s_119) + (1 : Int)) ≤ (↑(List.length s_109) : Int) then
          if List.length (Prod.fst s_119) + List.length (List.drop (Int.toNat (Prod.fst (Prod.snd s_119))) (List.take (Int.toNat (IntKind.wrap IntKind.i64 (Prod.fst (Prod.snd s_119) + (1 : Int)))) s_109)) ≤ (140737488355328 : Nat) then
            some (Sum.inl (Prod.fst s_119 ++ List.drop (Int.toNat (Prod.fst (Prod.snd s_119))) (List.take (Int.toNat (IntKind.wrap IntKind.i64 (Prod.fst (Prod.snd s_119) + (1 : Int)))) s_109), IntKind.wrap IntKind.i64 (Prod.fst (Prod.snd s_119) + (1 : Int)), Prod.snd (Prod.snd s_119)))
          else none
        else none
      else
        bif !Decidable.decide (Prod.fst s_119 = []) then
          if (List.length (Prod.snd (Prod.snd s_119)) + List.length ((fun (x : List (Ty.T Ty.str)) => x) [Prod.fst s_119])) * (16 : Nat) ≤ (17592186044416 : Nat) then
            some (Sum.inl ([], IntKind.wrap IntKind.i64 (Prod.fst (Prod.snd s_119) + (1 : Int)), Prod.snd (Prod.snd s_119) ++ [Prod.fst s_119]))
          else none
        else
          some (Sum.inl ([], IntKind.wrap IntKind.i64 (Prod.fst (Prod.snd s_119) + (1 : Int)), Prod.snd (Prod.snd s_119)))
    else none
  else
    some (Sum.inr (Prod.fst s_119, Prod.snd (Prod.snd s_119)))

noncomputable def cellarerref02_Parts (s_105 : List UInt8) : Option (List (List UInt8)) :=
  (iter (cellarerref02_Parts_b0 (s_105)) ([], (0 : Int), [])).bind (fun t_115 =>
    bif !Decidable.decide (Prod.fst t_115 = []) then
      if (List.length (Prod.snd t_115) + List.length ((fun (x : List (Ty.T Ty.str)) => x) [Prod.fst t_115])) * (16 : Nat) ≤ (17592186044416 : Nat) then
        some (Prod.snd t_115 ++ [Prod.fst t_115])
      else none
    else
      some (Prod.snd t_115))

def cellarerref02_Joined_res (r : List UInt8) : AV := (fun (r_134 : List UInt8) => AV.str r_134) r

def cellarerref02_Joined_out (r : List UInt8) : List AO := (fun (r_134 : List UInt8) => []) r

noncomputable def cellarerref02_Joined_b0 (l_127 : List (List UInt8)) (s_135 : List UInt8 × Int) : Option ((List UInt8 × Int) ⊕ (List UInt8)) :=
  bif Decidable.decide (Prod.snd s_135 < (↑(List.length l_127) : Int)) then
    if List.length (Prod.fst s_135) + List.length ((fun (x : List UInt8) => x) [(47 : UInt8)]) ≤ (140737488355328 : Nat) then
      if (0 : Int) ≤ Prod.snd s_135 ∧ Prod.snd s_135 < (↑(List.length l_127) : Int) then
        if List.length (Prod.fst s_135 ++ [(47 : UInt8)]) + List.length (List.getD l_127 (Int.toNat (Prod.snd s_135)) []) ≤ (140737488355328 : Nat) then
          some (Sum.inl (Prod.fst s_135 ++ [(47 : UInt8)] ++ List.getD l_127 (Int.toNat (Prod.snd s_135)) [], IntKind.wrap IntKind.i64 (Prod.snd s_135 + (1 : Int))))
        else none
      else none
    else none
  else
    some (Sum.inr (Prod.fst s_135))

noncomputable def cellarerref02_Joined (l_126 : List (List UInt8)) : Option (List UInt8) :=
  bif Decidable.decide ((↑(List.length l_126) : Int) = (0 : Int)) then
    some ([(47 : UInt8)])
  else
    (iter (cellarerref02_Joined_b0 (l_126)) ([], (0 : Int))).bind (fun t_131 =>
      some (t_131))

def cellarerref02_Parents_res (r : List (List UInt8)) : AV := (fun (r_146 : List (List UInt8)) => AV.view (0 : Nat) (0 : Nat) Option.none) r

def cellarerref02_Parents_out (r : List (List UInt8)) : List AO := (fun (r_146 : List (List UInt8)) => [AO.row Ty.str r_146]) r

noncomputable def cellarerref02_Parents_b0 (o0_139 : List (List UInt8)) (s_147 : Int × List (List UInt8)) : Option ((Int × List (List UInt8)) ⊕ (List (List UInt8))) :=
  bif Decidable.decide (Prod.fst s_147 < (↑(List.length o0_139) : Int) - (↑(0 : Nat) : Int)) then
    if (0 : Int) ≤ (0 : Int) ∧ (0 : Int) ≤ Prod.fst s_147 ∧ (↑(0 : Nat) : Int) + Prod.fst s_147 ≤ (↑(List.length o0_139) : Int) then
      (cellarerref02_Joined (List.drop (0 : Nat) (List.take ((0 : Nat) + Int.toNat (Prod.fst s_147)) o0_139))).bind fun a_141 =>
        if (List.length (Prod.snd s_147) + List.length ((fun (x : List (Ty.T Ty.str)) => x) [a_141])) * (16 : Nat) ≤ (17592186044416 : Nat) then
          some (Sum.inl (IntKind.wrap IntKind.i64 (Prod.fst s_147 + (1 : Int)), Prod.snd s_147 ++ [a_141]))
        else none
    else none
  else
    some (Sum.inr (Prod.snd s_147))

noncomputable def cellarerref02_Parents (s_122 : List UInt8) : Option (List (List UInt8)) :=
  (cellarerref02_Parts (s_122)).bind fun a_123 =>
    (iter (cellarerref02_Parents_b0 (a_123)) ((0 : Int), [])).bind (fun t_143 =>
      some (t_143))

def cellarerref02_Clean_res (r : List UInt8 × Int) : AV := (fun (r_172 : List UInt8 × Int) => AV.tup [AV.str (Prod.fst r_172), AV.int IntKind.i64 (Prod.snd r_172)]) r

def cellarerref02_Clean_out (r : List UInt8 × Int) : List AO := (fun (r_172 : List UInt8 × Int) => []) r

noncomputable def cellarerref02_Clean_b0 (s_154 : List UInt8) (s_173 : Int) : Option ((Int) ⊕ (Unit ⊕ Unit)) :=
  bif Decidable.decide (s_173 < (↑(List.length s_154) : Int)) then
    if (0 : Int) ≤ s_173 ∧ s_173 < (↑(List.length s_154) : Int) then
      bif Decidable.decide ((↑(UInt8.toNat (List.getD s_154 (Int.toNat s_173) (0 : UInt8))) : Int) < (33 : Int)) then
        some (Sum.inr (Sum.inl ()))
      else
        if (0 : Int) ≤ s_173 ∧ s_173 < (↑(List.length s_154) : Int) then
          bif Decidable.decide ((126 : Int) < (↑(UInt8.toNat (List.getD s_154 (Int.toNat s_173) (0 : UInt8))) : Int)) then
            some (Sum.inr (Sum.inl ()))
          else
            some (Sum.inl (IntKind.wrap IntKind.i64 (s_173 + (1 : Int))))
        else none
    else none
  else
    some (Sum.inr (Sum.inr ()))

noncomputable def cellarerref02_Clean_b1 (o0_162 : List (List UInt8)) (s_174 : Int × List (List UInt8)) : Option ((Int × List (List UInt8)) ⊕ (List (List UInt8))) :=
  bif Decidable.decide (Prod.fst s_174 < (↑(List.length o0_162) : Int) - (↑(0 : Nat) : Int)) then
    if (0 : Int) ≤ Prod.fst s_174 ∧ Prod.fst s_174 + (↑(0 : Nat) : Int) < (↑(List.length o0_162) : Int) then
      if (0 : Nat) + Int.toNat (Prod.fst s_174) < List.length o0_162 then
        bif Decidable.decide (List.getD o0_162 ((0 : Nat) + Int.toNat (Prod.fst s_174)) [] = [(46 : UInt8), (46 : UInt8)]) then
          bif Decidable.decide ((0 : Int) < (↑(List.length (Prod.snd s_174)) : Int) - (↑(0 : Nat) : Int)) then
            if (0 : Int) ≤ (0 : Int) ∧ (0 : Int) ≤ IntKind.wrap IntKind.i64 ((↑(List.length (Prod.snd s_174)) : Int) - (↑(0 : Nat) : Int) - (1 : Int)) ∧ (↑(0 : Nat) : Int) + IntKind.wrap IntKind.i64 ((↑(List.length (Prod.snd s_174)) : Int) - (↑(0 : Nat) : Int) - (1 : Int)) ≤ (↑(List.length (Prod.snd s_174)) : Int) then
              some (Sum.inl (IntKind.wrap IntKind.i64 (Prod.fst s_174 + (1 : Int)), List.take ((0 : Nat) + Int.toNat (IntKind.wrap IntKind.i64 ((↑(List.length (Prod.snd s_174)) : Int) - (↑(0 : Nat) : Int) - (1 : Int)))) (Prod.snd s_174)))
            else none
          else
            some (Sum.inl (IntKind.wrap IntKind.i64 (Prod.fst s_174 + (1 : Int)), Prod.snd s_174))
        else
          if (0 : Int) ≤ Prod.fst s_174 ∧ Prod.fst s_174 + (↑(0 : Nat) : Int) < (↑(List.length o0_162) : Int) then
            if (0 : Nat) + Int.toNat (Prod.fst s_174) < List.length o0_162 then
              bif !Decidable.decide (List.getD o0_162 ((0 : Nat) + Int.toNat (Prod.fst s_174)) [] = [(46 : UInt8)]) then
                if (0 : Int) ≤ Prod.fst s_174 ∧ Prod.fst s_174 + (↑(0 : Nat) : Int) < (↑(List.length o0_162) : Int) then
                  if (0 : Nat) + Int.toNat (Prod.fst s_174) < List.length o0_162 then
                    if (List.length (Prod.snd s_174) + List.length ((fun (x : List (Ty.T Ty.str)) => x) [List.getD o0_162 ((0 : Nat) + Int.toNat (Prod.fst s_174)) []])) * (16 : Nat) ≤ (17592186044416 : Nat) then
                      some (Sum.inl (IntKind.wrap IntKind.i64 (Prod.fst s_174 + (1 : Int)), Prod.snd s_174 ++ [List.getD o0_162 ((0 : Nat) + Int.toNat (Prod.fst s_174)) []]))
                    else none
                  else none
                else none
              else
                some (Sum.inl (IntKind.wrap IntKind.i64 (Prod.fst s_174 + (1 : Int)), Prod.snd s_174))
            else none
          else none
      else none
    else none
  else
    some (Sum.inr (Prod.snd s_174))

noncomputable def cellarerref02_Clean (s_151 : List UInt8) : Option (List UInt8 × Int) :=
  Option.bind (α := Unit ⊕ Unit) (
    bif Decidable.decide ((↑(List.length s_151) : Int) = (0 : Int)) then
      some (Sum.inl ())
    else
      if (0 : Int) ≤ (0 : Int) ∧ (0 : Int) < (↑(List.length s_151) : Int) then
        bif !Decidable.decide ((↑(UInt8.toNat (List.getD s_151 (Int.toNat (0 : Int)) (0 : UInt8))) : Int) = (47 : Int)) then
          some (Sum.inl ())
        else
          some (Sum.inr ())
      else none) (Sum.elim (fun t_152 =>
    some ([], (1 : Int))) (fun t_153 =>
    (iter (cellarerref02_Clean_b0 (s_151)) ((0 : Int))).bind (Sum.elim (fun t_156 =>
      some ([], (1 : Int))) (fun t_157 =>
      (cellarerref02_Parts (s_151)).bind fun a_158 =>
        (iter (cellarerref02_Clean_b1 (a_158)) ((0 : Int), [])).bind (fun t_165 =>
          (cellarerref02_Joined (List.drop (0 : Nat) t_165)).bind fun a_166 =>
            bif Decidable.decide ((200 : Int) < (↑(List.length a_166) : Int)) then
              some ([], (8 : Int))
            else
              some (a_166, (0 : Int)))))))

def cellarerref02_Right_res (r : Bool) : AV := (fun (r_181 : Bool) => AV.bool r_181) r

def cellarerref02_Right_out (r : Bool) : List AO := (fun (r_181 : Bool) => []) r

noncomputable def cellarerref02_Right (s_178 : List UInt8) : Option (Bool) :=
  (cellarerref02_Clean (s_178)).bind fun a_179 =>
    bif Decidable.decide (Prod.snd a_179 = (0 : Int)) then
      some (Decidable.decide (Prod.fst a_179 = s_178))
    else
      some (Bool.false)

def cellarerref02_Has_res (r : Bool) : AV := (fun (r_199 : Bool) => AV.bool r_199) r

def cellarerref02_Has_out (r : Bool) : List AO := (fun (r_199 : Bool) => []) r

noncomputable def cellarerref02_Has_b0 (l_192 : List (List UInt8)) (s_193 : List UInt8) (s_200 : Int) : Option ((Int) ⊕ (Unit ⊕ Unit)) :=
  bif Decidable.decide (s_200 < (↑(List.length l_192) : Int)) then
    if (0 : Int) ≤ s_200 ∧ s_200 < (↑(List.length l_192) : Int) then
      bif Decidable.decide (List.getD l_192 (Int.toNat s_200) [] = s_193) then
        some (Sum.inr (Sum.inl ()))
      else
        some (Sum.inl (IntKind.wrap IntKind.i64 (s_200 + (1 : Int))))
    else none
  else
    some (Sum.inr (Sum.inr ()))

noncomputable def cellarerref02_Has (l_190 : List (List UInt8)) (s_191 : List UInt8) : Option (Bool) :=
  (iter (cellarerref02_Has_b0 (l_190) (s_191)) ((0 : Int))).bind (Sum.elim (fun t_195 =>
    some (Bool.true)) (fun t_196 =>
    some (Bool.false)))

def cellarerref02_Sorted_res (r : List (List UInt8)) : AV := (fun (r_222 : List (List UInt8)) => AV.view (0 : Nat) (0 : Nat) Option.none) r

def cellarerref02_Sorted_out (r : List (List UInt8)) : List AO := (fun (r_222 : List (List UInt8)) => [AO.row Ty.str r_222]) r

noncomputable def cellarerref02_Sorted_b0 (l_209 : List (List UInt8)) (o0_213 : List (List UInt8)) (s_224 : Int × Int) : Option ((Int × Int) ⊕ (Int)) :=
  bif Decidable.decide (Prod.snd s_224 < (↑(List.length l_209) : Int)) then
    if (0 : Int) ≤ Prod.snd s_224 ∧ Prod.snd s_224 < (↑(List.length l_209) : Int) then
      (cellarerref02_Has (List.drop (0 : Nat) o0_213) (List.getD l_209 (Int.toNat (Prod.snd s_224)) [])).bind fun a_214 =>
        bif !a_214 then
          bif Decidable.decide (Prod.fst s_224 < (0 : Int)) then
            some (Sum.inl (Prod.snd s_224, IntKind.wrap IntKind.i64 (Prod.snd s_224 + (1 : Int))))
          else
            if (0 : Int) ≤ Prod.snd s_224 ∧ Prod.snd s_224 < (↑(List.length l_209) : Int) then
              if (0 : Int) ≤ Prod.fst s_224 ∧ Prod.fst s_224 < (↑(List.length l_209) : Int) then
                bif Go.Op.bytesLess (List.getD l_209 (Int.toNat (Prod.snd s_224)) []) (List.getD l_209 (Int.toNat (Prod.fst s_224)) []) then
                  some (Sum.inl (Prod.snd s_224, IntKind.wrap IntKind.i64 (Prod.snd s_224 + (1 : Int))))
                else
                  some (Sum.inl (Prod.fst s_224, IntKind.wrap IntKind.i64 (Prod.snd s_224 + (1 : Int))))
              else none
            else none
        else
          some (Sum.inl (Prod.fst s_224, IntKind.wrap IntKind.i64 (Prod.snd s_224 + (1 : Int))))
    else none
  else
    some (Sum.inr (Prod.fst s_224))

noncomputable def cellarerref02_Sorted_b1 (l_206 : List (List UInt8)) (s_223 : Int × List (List UInt8)) : Option ((Int × List (List UInt8)) ⊕ (List (List UInt8))) :=
  bif Decidable.decide (Prod.fst s_223 < (↑(List.length l_206) : Int)) then
    (iter (cellarerref02_Sorted_b0 (l_206) (Prod.snd s_223)) ((-1 : Int), (0 : Int))).bind (fun t_216 =>
      bif Decidable.decide ((0 : Int) ≤ t_216) then
        if (0 : Int) ≤ t_216 ∧ t_216 < (↑(List.length l_206) : Int) then
          if (List.length (Prod.snd s_223) + List.length ((fun (x : List (Ty.T Ty.str)) => x) [List.getD l_206 (Int.toNat t_216) []])) * (16 : Nat) ≤ (17592186044416 : Nat) then
            some (Sum.inl (IntKind.wrap IntKind.i64 (Prod.fst s_223 + (1 : Int)), Prod.snd s_223 ++ [List.getD l_206 (Int.toNat t_216) []]))
          else none
        else none
      else
        some (Sum.inl (IntKind.wrap IntKind.i64 (Prod.fst s_223 + (1 : Int)), Prod.snd s_223)))
  else
    some (Sum.inr (Prod.snd s_223))

noncomputable def cellarerref02_Sorted (l_183 : List (List UInt8)) : Option (List (List UInt8)) :=
  (iter (cellarerref02_Sorted_b1 (l_183)) ((0 : Int), [])).bind (fun t_219 =>
    some (t_219))

def stringslite_HasSuffix_res (r : Bool) : AV := (fun (r_236 : Bool) => AV.bool r_236) r

def stringslite_HasSuffix_out (r : Bool) : List AO := (fun (r_236 : Bool) => []) r

noncomputable def stringslite_HasSuffix (s_233 : List UInt8) (suffix_234 : List UInt8) : Option (Bool) :=
  bif Decidable.decide ((↑(List.length suffix_234) : Int) ≤ (↑(List.length s_233) : Int)) then
    if (0 : Int) ≤ IntKind.wrap IntKind.i64 ((↑(List.length s_233) : Int) - (↑(List.length suffix_234) : Int)) ∧ IntKind.wrap IntKind.i64 ((↑(List.length s_233) : Int) - (↑(List.length suffix_234) : Int)) ≤ (↑(List.length s_233) : Int) ∧ (↑(List.length s_233) : Int) ≤ (↑(List.length s_233) : Int) then
      some (Decidable.decide (List.drop (Int.toNat (IntKind.wrap IntKind.i64 ((↑(List.length s_233) : Int) - (↑(List.length suffix_234) : Int)))) (List.take (Int.toNat (↑(List.length s_233) : Int)) s_233) = suffix_234))
    else none
  else
    some (Bool.false)

def strings_HasSuffix_res (r : Bool) : AV := (fun (r_239 : Bool) => AV.bool r_239) r

def strings_HasSuffix_out (r : Bool) : List AO := (fun (r_239 : Bool) => []) r

noncomputable def strings_HasSuffix (s_231 : List UInt8) (suffix_232 : List UInt8) : Option (Bool) :=
  (stringslite_HasSuffix (s_231) (suffix_232)).bind fun a_237 =>
    some (a_237)

def path_Join_res (r : List UInt8) : AV := (fun (r_242 : List UInt8) => AV.str r_242) r

def path_Join_out (r : List UInt8) : List AO := (fun (r_242 : List UInt8) => []) r

noncomputable def path_Join (dir_229 : List UInt8) (name_230 : List UInt8) : Option (List UInt8) :=
  (strings_HasSuffix (dir_229) ([(47 : UInt8)])).bind fun a_240 =>
    bif a_240 then
      if List.length dir_229 + List.length name_230 ≤ (140737488355328 : Nat) then
        some (dir_229 ++ name_230)
      else none
    else
      if List.length dir_229 + List.length ((fun (x : List UInt8) => x) [(47 : UInt8)]) ≤ (140737488355328 : Nat) then
        if List.length (dir_229 ++ [(47 : UInt8)]) + List.length name_230 ≤ (140737488355328 : Nat) then
          some (dir_229 ++ [(47 : UInt8)] ++ name_230)
        else none
      else none

def stringslite_HasPrefix_res (r : Bool) : AV := (fun (r_253 : Bool) => AV.bool r_253) r

def stringslite_HasPrefix_out (r : Bool) : List AO := (fun (r_253 : Bool) => []) r

noncomputable def stringslite_HasPrefix (s_250 : List UInt8) (prefix_251 : List UInt8) : Option (Bool) :=
  bif Decidable.decide ((↑(List.length prefix_251) : Int) ≤ (↑(List.length s_250) : Int)) then
    if (0 : Int) ≤ (0 : Int) ∧ (0 : Int) ≤ (↑(List.length prefix_251) : Int) ∧ (↑(List.length prefix_251) : Int) ≤ (↑(List.length s_250) : Int) then
      some (Decidable.decide (List.drop (Int.toNat (0 : Int)) (List.take (Int.toNat (↑(List.length prefix_251) : Int)) s_250) = prefix_251))
    else none
  else
    some (Bool.false)

def strings_HasPrefix_res (r : Bool) : AV := (fun (r_256 : Bool) => AV.bool r_256) r

def strings_HasPrefix_out (r : Bool) : List AO := (fun (r_256 : Bool) => []) r

noncomputable def strings_HasPrefix (s_248 : List UInt8) (prefix_249 : List UInt8) : Option (Bool) :=
  (stringslite_HasPrefix (s_248) (prefix_249)).bind fun a_254 =>
    some (a_254)

def path_Under_res (r : Bool) : AV := (fun (r_259 : Bool) => AV.bool r_259) r

def path_Under_out (r : Bool) : List AO := (fun (r_259 : Bool) => []) r

noncomputable def path_Under (dir_245 : List UInt8) (s_246 : List UInt8) : Option (Bool) :=
  (path_Join (dir_245) ([])).bind fun a_247 =>
    (strings_HasPrefix (s_246) (a_247)).bind fun a_257 =>
      bif a_257 then
        some (Decidable.decide ((↑(List.length a_247) : Int) < (↑(List.length s_246) : Int)))
      else
        some (Bool.false)

def path_plain_res (r : Bool) : AV := (fun (r_270 : Bool) => AV.bool r_270) r

def path_plain_out (r : Bool) : List AO := (fun (r_270 : Bool) => []) r

noncomputable def path_plain_b0 (s_262 : List UInt8) (t_263 : Int) (s_271 : Int) : Option ((Int) ⊕ (Unit ⊕ Unit)) :=
  bif Decidable.decide (s_271 < t_263) then
    if (0 : Int) ≤ s_271 ∧ s_271 < (↑(List.length s_262) : Int) then
      bif Decidable.decide ((↑(UInt8.toNat (List.getD s_262 (Int.toNat s_271) (0 : UInt8))) : Int) < (33 : Int)) then
        some (Sum.inr (Sum.inl ()))
      else
        if (0 : Int) ≤ s_271 ∧ s_271 < (↑(List.length s_262) : Int) then
          bif Decidable.decide ((126 : Int) < (↑(UInt8.toNat (List.getD s_262 (Int.toNat s_271) (0 : UInt8))) : Int)) then
            some (Sum.inr (Sum.inl ()))
          else
            some (Sum.inl (IntKind.wrap IntKind.i64 (s_271 + (1 : Int))))
        else none
    else none
  else
    some (Sum.inr (Sum.inr ()))

noncomputable def path_plain (s_261 : List UInt8) : Option (Bool) :=
  (iter (path_plain_b0 (s_261) ((↑(List.length s_261) : Int))) ((0 : Int))).bind (Sum.elim (fun t_265 =>
    some (Bool.false)) (fun t_266 =>
    (strings_HasPrefix (s_261) ([(47 : UInt8)])).bind fun a_267 =>
      some (a_267)))

def strings_Count_res (r : Int) : AV := (fun (r_309 : Int) => AV.int IntKind.i64 r_309) r

def strings_Count_out (r : Int) : List AO := (fun (r_309 : Int) => []) r

noncomputable def strings_Count_b0 (substr_302 : List UInt8) (s_310 : List UInt8 × Int) : Option ((List UInt8 × Int) ⊕ (Int)) :=
  (strings_Index (Prod.fst s_310) (substr_302)).bind fun a_304 =>
    bif Decidable.decide (a_304 = (-1 : Int)) then
      some (Sum.inr (Prod.snd s_310))
    else
      if (0 : Int) ≤ IntKind.wrap IntKind.i64 (a_304 + (↑(List.length substr_302) : Int)) ∧ IntKind.wrap IntKind.i64 (a_304 + (↑(List.length substr_302) : Int)) ≤ (↑(List.length (Prod.fst s_310)) : Int) ∧ (↑(List.length (Prod.fst s_310)) : Int) ≤ (↑(List.length (Prod.fst s_310)) : Int) then
        some (Sum.inl (List.drop (Int.toNat (IntKind.wrap IntKind.i64 (a_304 + (↑(List.length substr_302) : Int)))) (List.take (Int.toNat (↑(List.length (Prod.fst s_310)) : Int)) (Prod.fst s_310)), IntKind.wrap IntKind.i64 (Prod.snd s_310 + (1 : Int))))
      else none

noncomputable def strings_Count (s_299 : List UInt8) (substr_300 : List UInt8) : Option (Int) :=
  bif Decidable.decide ((↑(List.length substr_300) : Int) = (0 : Int)) then
    none
  else
    bif Decidable.decide ((↑(List.length substr_300) : Int) = (1 : Int)) then
      if (0 : Int) ≤ (0 : Int) ∧ (0 : Int) < (↑(List.length substr_300) : Int) then
        some ((↑(List.count (Nat.toUInt8 (Int.toNat (↑(UInt8.toNat (List.getD substr_300 (Int.toNat (0 : Int)) (0 : UInt8))) : Int))) s_299) : Int))
      else none
    else
      (iter (strings_Count_b0 (substr_300)) (s_299, (0 : Int))).bind (fun t_306 =>
        some (t_306))

def strings_genSplit_res (r : List (List UInt8)) : AV := (fun (r_329 : List (List UInt8)) => AV.view (0 : Nat) (0 : Nat) Option.none) r

def strings_genSplit_out (r : List (List UInt8)) : List AO := (fun (r_329 : List (List UInt8)) => [AO.row Ty.str r_329]) r

noncomputable def strings_genSplit_b0 (sep_316 : List UInt8) (sepSave_317 : Int) (n_318 : Int) (s_330 : List UInt8 × Int × List (List UInt8)) : Option ((List UInt8 × Int × List (List UInt8)) ⊕ (List UInt8 × Int × List (List UInt8))) :=
  bif Decidable.decide (Prod.fst (Prod.snd s_330) < n_318) then
    (strings_Index (Prod.fst s_330) (sep_316)).bind fun a_321 =>
      bif Decidable.decide (a_321 < (0 : Int)) then
        some (Sum.inr (Prod.fst s_330, Prod.fst (Prod.snd s_330), Prod.snd (Prod.snd s_330)))
      else
        if (0 : Int) ≤ (0 : Int) ∧ (0 : Int) ≤ IntKind.wrap IntKind.i64 (a_321 + sepSave_317) ∧ IntKind.wrap IntKind.i64 (a_321 + sepSave_317) ≤ (↑(List.length (Prod.fst s_330)) : Int) then
          if (0 : Int) ≤ Prod.fst (Prod.snd s_330) ∧ Prod.fst (Prod.snd s_330) + (↑(0 : Nat) : Int) < (↑(List.length (Prod.snd (Prod.snd s_330))) : Int) then
            if (0 : Nat) + Int.toNat (Prod.fst (Prod.snd s_330)) < List.length (Prod.snd (Prod.snd s_330)) then
              if (0 : Int) ≤ IntKind.wrap IntKind.i64 (a_321 + (↑(List.length sep_316) : Int)) ∧ IntKind.wrap IntKind.i64 (a_321 + (↑(List.length sep_316) : Int)) ≤ (↑(List.length (Prod.fst s_330)) : Int) ∧ (↑(List.length (Prod.fst s_330)) : Int) ≤ (↑(List.length (Prod.fst s_330)) : Int) then
                some (Sum.inl (List.drop (Int.toNat (IntKind.wrap IntKind.i64 (a_321 + (↑(List.length sep_316) : Int)))) (List.take (Int.toNat (↑(List.length (Prod.fst s_330)) : Int)) (Prod.fst s_330)), IntKind.wrap IntKind.i64 (Prod.fst (Prod.snd s_330) + (1 : Int)), List.set (Prod.snd (Prod.snd s_330)) ((0 : Nat) + Int.toNat (Prod.fst (Prod.snd s_330))) (List.drop (Int.toNat (0 : Int)) (List.take (Int.toNat (IntKind.wrap IntKind.i64 (a_321 + sepSave_317))) (Prod.fst s_330)))))
              else none
            else none
          else none
        else none
  else
    some (Sum.inr (Prod.fst s_330, Prod.fst (Prod.snd s_330), Prod.snd (Prod.snd s_330)))

noncomputable def strings_genSplit (s_293 : List UInt8) (sep_294 : List UInt8) (sepSave_295 : Int) (n_296 : Int) : Option (List (List UInt8)) :=
  bif Decidable.decide (n_296 = (0 : Int)) then
    some ([])
  else
    bif Decidable.decide (sep_294 = []) then
      none
    else
      Option.bind (α := Int) (
        bif Decidable.decide (n_296 < (0 : Int)) then
          (strings_Count (s_293) (sep_294)).bind fun a_312 =>
            some (IntKind.wrap IntKind.i64 (a_312 + (1 : Int)))
        else
          some (n_296)) (fun t_314 =>
        if ((0 : Int) ≤ if IntKind.wrap IntKind.i64 ((↑(List.length s_293) : Int) + (1 : Int)) < t_314 then IntKind.wrap IntKind.i64 ((↑(List.length s_293) : Int) + (1 : Int)) else t_314) ∧ ((if IntKind.wrap IntKind.i64 ((↑(List.length s_293) : Int) + (1 : Int)) < t_314 then IntKind.wrap IntKind.i64 ((↑(List.length s_293) : Int) + (1 : Int)) else t_314) ≤ if IntKind.wrap IntKind.i64 ((↑(List.length s_293) : Int) + (1 : Int)) < t_314 then IntKind.wrap IntKind.i64 ((↑(List.length s_293) : Int) + (1 : Int)) else t_314) ∧ (if IntKind.wrap IntKind.i64 ((↑(List.length s_293) : Int) + (1 : Int)) < t_314 then IntKind.wrap IntKind.i64 ((↑(List.length s_293) : Int) + (1 : Int)) else t_314) ≤ (140737488355328 : Int) ∧ ((↑(16 : Nat) : Int) * if IntKind.wrap IntKind.i64 ((↑(List.length s_293) : Int) + (1 : Int)) < t_314 then IntKind.wrap IntKind.i64 ((↑(List.length s_293) : Int) + (1 : Int)) else t_314) ≤ (140737488355328 : Int) then
          (iter (strings_genSplit_b0 (sep_294) (sepSave_295) (IntKind.wrap IntKind.i64 ((if IntKind.wrap IntKind.i64 ((↑(List.length s_293) : Int) + (1 : Int)) < t_314 then IntKind.wrap IntKind.i64 ((↑(List.length s_293) : Int) + (1 : Int)) else t_314) - (1 : Int)))) (s_293, (0 : Int), List.replicate (Int.toNat (if IntKind.wrap IntKind.i64 ((↑(List.length s_293) : Int) + (1 : Int)) < t_314 then IntKind.wrap IntKind.i64 ((↑(List.length s_293) : Int) + (1 : Int)) else t_314)) [])).bind (fun t_325 =>
            if (0 : Int) ≤ Prod.fst (Prod.snd t_325) ∧ Prod.fst (Prod.snd t_325) + (↑(0 : Nat) : Int) < (↑(List.length (Prod.snd (Prod.snd t_325))) : Int) then
              if (0 : Nat) + Int.toNat (Prod.fst (Prod.snd t_325)) < List.length (Prod.snd (Prod.snd t_325)) then
                if (0 : Int) ≤ (0 : Int) ∧ (0 : Int) ≤ IntKind.wrap IntKind.i64 (Prod.fst (Prod.snd t_325) + (1 : Int)) ∧ (↑(0 : Nat) : Int) + IntKind.wrap IntKind.i64 (Prod.fst (Prod.snd t_325) + (1 : Int)) ≤ (↑(List.length (List.set (Prod.snd (Prod.snd t_325)) ((0 : Nat) + Int.toNat (Prod.fst (Prod.snd t_325))) (Prod.fst t_325))) : Int) then
                  some (List.take ((0 : Nat) + Int.toNat (IntKind.wrap IntKind.i64 (Prod.fst (Prod.snd t_325) + (1 : Int)))) (List.set (Prod.snd (Prod.snd t_325)) ((0 : Nat) + Int.toNat (Prod.fst (Prod.snd t_325))) (Prod.fst t_325)))
                else none
              else none
            else none)
        else none)

def strings_Split_res (r : List (List UInt8)) : AV := (fun (r_334 : List (List UInt8)) => AV.view (0 : Nat) (0 : Nat) Option.none) r

def strings_Split_out (r : List (List UInt8)) : List AO := (fun (r_334 : List (List UInt8)) => [AO.row Ty.str r_334]) r

noncomputable def strings_Split (s_281 : List UInt8) (sep_282 : List UInt8) : Option (List (List UInt8)) :=
  (strings_genSplit (s_281) (sep_282) ((0 : Int)) ((-1 : Int))).bind fun a_332 =>
    some (a_332)

def path_Parts_1_res (r : Bool) : AV := (fun (r_346 : Bool) => AV.bool r_346) r

def path_Parts_1_out (r : Bool) : List AO := (fun (r_346 : Bool) => []) r

noncomputable def path_Parts_1 (p_344 : List UInt8) : Option (Bool) :=
  some (!Decidable.decide (p_344 = []))

def path_keep_string__res (r : List (List UInt8)) : AV := (fun (r_357 : List (List UInt8)) => AV.view (0 : Nat) (0 : Nat) Option.none) r

def path_keep_string__out (r : List (List UInt8)) : List AO := (fun (r_357 : List (List UInt8)) => [AO.row Ty.str r_357]) r

noncomputable def path_keep_string__b0 (t_348 : List (List UInt8)) (t_349 : Int) (s_358 : Int × List (List UInt8)) : Option ((Int × List (List UInt8)) ⊕ (List (List UInt8))) :=
  bif Decidable.decide (Prod.fst s_358 < t_349) then
    if (0 : Int) ≤ Prod.fst s_358 ∧ Prod.fst s_358 < (↑(List.length t_348) : Int) then
      (path_Parts_1 (List.getD t_348 (Int.toNat (Prod.fst s_358)) [])).bind fun a_352 =>
        bif a_352 then
          if (List.length (Prod.snd s_358) + List.length ((fun (x : List (Ty.T Ty.str)) => x) [List.getD t_348 (Int.toNat (Prod.fst s_358)) []])) * (16 : Nat) ≤ (17592186044416 : Nat) then
            some (Sum.inl (IntKind.wrap IntKind.i64 (Prod.fst s_358 + (1 : Int)), Prod.snd s_358 ++ [List.getD t_348 (Int.toNat (Prod.fst s_358)) []]))
          else none
        else
          some (Sum.inl (IntKind.wrap IntKind.i64 (Prod.fst s_358 + (1 : Int)), Prod.snd s_358))
    else none
  else
    some (Sum.inr (Prod.snd s_358))

noncomputable def path_keep_string_ (l_340 : List (List UInt8)) : Option (List (List UInt8)) :=
  (iter (path_keep_string__b0 (l_340) ((↑(List.length l_340) : Int))) ((0 : Int), [])).bind (fun t_354 =>
    some (t_354))

def path_Parts_res (r : List (List UInt8)) : AV := (fun (r_362 : List (List UInt8)) => AV.view (0 : Nat) (0 : Nat) Option.none) r

def path_Parts_out (r : List (List UInt8)) : List AO := (fun (r_362 : List (List UInt8)) => [AO.row Ty.str r_362]) r

noncomputable def path_Parts (s_338 : List UInt8) : Option (List (List UInt8)) :=
  (strings_Split (s_338) ([(47 : UInt8)])).bind fun a_339 =>
    (path_keep_string_ (List.drop (0 : Nat) a_339)).bind fun a_360 =>
      some (a_360)

def path_Clean_res (r : List UInt8 × Int) : AV := (fun (r_380 : List UInt8 × Int) => AV.tup [AV.str (Prod.fst r_380), AV.int IntKind.i64 (Prod.snd r_380)]) r

def path_Clean_out (r : List UInt8 × Int) : List AO := (fun (r_380 : List UInt8 × Int) => []) r

noncomputable def path_Clean_b0 (t_370 : Int) (o1_373 : List (List UInt8)) (s_381 : Int × List (List UInt8)) : Option ((Int × List (List UInt8)) ⊕ (List (List UInt8))) :=
  bif Decidable.decide (Prod.fst s_381 < t_370) then
    if (0 : Int) ≤ Prod.fst s_381 ∧ Prod.fst s_381 + (↑(0 : Nat) : Int) < (↑(List.length o1_373) : Int) then
      if (0 : Nat) + Int.toNat (Prod.fst s_381) < List.length o1_373 then
        bif Decidable.decide (List.getD o1_373 ((0 : Nat) + Int.toNat (Prod.fst s_381)) [] = [(46 : UInt8)]) then
          some (Sum.inl (IntKind.wrap IntKind.i64 (Prod.fst s_381 + (1 : Int)), Prod.snd s_381))
        else
          bif Decidable.decide (List.getD o1_373 ((0 : Nat) + Int.toNat (Prod.fst s_381)) [] = [(46 : UInt8), (46 : UInt8)]) then
            if (0 : Int) ≤ (0 : Int) ∧ (0 : Int) ≤ IntKind.wrap IntKind.i64 ((if (1 : Int) > (↑(List.length (Prod.snd s_381)) : Int) - (↑(0 : Nat) : Int) then (1 : Int) else (↑(List.length (Prod.snd s_381)) : Int) - (↑(0 : Nat) : Int)) - (1 : Int)) ∧ (↑(0 : Nat) : Int) + IntKind.wrap IntKind.i64 ((if (1 : Int) > (↑(List.length (Prod.snd s_381)) : Int) - (↑(0 : Nat) : Int) then (1 : Int) else (↑(List.length (Prod.snd s_381)) : Int) - (↑(0 : Nat) : Int)) - (1 : Int)) ≤ (↑(List.length (Prod.snd s_381)) : Int) then
              some (Sum.inl (IntKind.wrap IntKind.i64 (Prod.fst s_381 + (1 : Int)), List.take ((0 : Nat) + Int.toNat (IntKind.wrap IntKind.i64 ((if (1 : Int) > (↑(List.length (Prod.snd s_381)) : Int) - (↑(0 : Nat) : Int) then (1 : Int) else (↑(List.length (Prod.snd s_381)) : Int) - (↑(0 : Nat) : Int)) - (1 : Int)))) (Prod.snd s_381)))
            else none
          else
            if (List.length (Prod.snd s_381) + List.length ((fun (x : List (Ty.T Ty.str)) => x) [List.getD o1_373 ((0 : Nat) + Int.toNat (Prod.fst s_381)) []])) * (16 : Nat) ≤ (17592186044416 : Nat) then
              some (Sum.inl (IntKind.wrap IntKind.i64 (Prod.fst s_381 + (1 : Int)), Prod.snd s_381 ++ [List.getD o1_373 ((0 : Nat) + Int.toNat (Prod.fst s_381)) []]))
            else none
      else none
    else none
  else
    some (Sum.inr (Prod.snd s_381))

noncomputable def path_Clean (s_364 : List UInt8) : Option (List UInt8 × Int) :=
  (path_plain (s_364)).bind fun a_365 =>
    bif !a_365 then
      some ([], (1 : Int))
    else
      (path_Parts (s_364)).bind fun a_366 =>
        (iter (path_Clean_b0 ((↑(List.length a_366) : Int) - (↑(0 : Nat) : Int)) (a_366)) ((0 : Int), [])).bind (fun t_375 =>
          (strings_Join (List.drop (0 : Nat) t_375) ([(47 : UInt8)])).bind fun a_376 =>
            if List.length ((fun (x : List UInt8) => x) [(47 : UInt8)]) + List.length a_376 ≤ (140737488355328 : Nat) then
              bif Decidable.decide ((200 : Int) < (↑(List.length ([(47 : UInt8)] ++ a_376)) : Int)) then
                some ([], (8 : Int))
              else
                some ([(47 : UInt8)] ++ a_376, (0 : Int))
            else none)

def path_Right_res (r : Bool) : AV := (fun (r_387 : Bool) => AV.bool r_387) r

def path_Right_out (r : Bool) : List AO := (fun (r_387 : Bool) => []) r

noncomputable def path_Right (s_384 : List UInt8) : Option (Bool) :=
  (path_Clean (s_384)).bind fun a_385 =>
    bif Decidable.decide (Prod.snd a_385 = (0 : Int)) then
      some (Decidable.decide (Prod.fst a_385 = s_384))
    else
      some (Bool.false)

def path_Parents_res (r : List (List UInt8)) : AV := (fun (r_406 : List (List UInt8)) => AV.view (0 : Nat) (0 : Nat) Option.none) r

def path_Parents_out (r : List (List UInt8)) : List AO := (fun (r_406 : List (List UInt8)) => [AO.row Ty.str r_406]) r

noncomputable def path_Parents_b0 (t_397 : Int) (o0_399 : List (List UInt8)) (s_407 : List UInt8 × Int × List (List UInt8)) : Option ((List UInt8 × Int × List (List UInt8)) ⊕ (List (List UInt8))) :=
  bif Decidable.decide (Prod.fst (Prod.snd s_407) < t_397) then
    if (0 : Int) ≤ Prod.fst (Prod.snd s_407) ∧ Prod.fst (Prod.snd s_407) + (↑(0 : Nat) : Int) < (↑(List.length o0_399) : Int) then
      if (0 : Nat) + Int.toNat (Prod.fst (Prod.snd s_407)) < List.length o0_399 then
        if (List.length (Prod.snd (Prod.snd s_407)) + List.length ((fun (x : List (Ty.T Ty.str)) => x) [Prod.fst s_407])) * (16 : Nat) ≤ (17592186044416 : Nat) then
          bif Decidable.decide (IntKind.wrap IntKind.i64 (Prod.fst (Prod.snd s_407) + (1 : Int)) < (↑(List.length o0_399) : Int) - (↑(0 : Nat) : Int)) then
            (path_Join (Prod.fst s_407) (List.getD o0_399 ((0 : Nat) + Int.toNat (Prod.fst (Prod.snd s_407))) [])).bind fun a_401 =>
              some (Sum.inl (a_401, IntKind.wrap IntKind.i64 (Prod.fst (Prod.snd s_407) + (1 : Int)), Prod.snd (Prod.snd s_407) ++ [Prod.fst s_407]))
          else
            some (Sum.inl (Prod.fst s_407, IntKind.wrap IntKind.i64 (Prod.fst (Prod.snd s_407) + (1 : Int)), Prod.snd (Prod.snd s_407) ++ [Prod.fst s_407]))
        else none
      else none
    else none
  else
    some (Sum.inr (Prod.snd (Prod.snd s_407)))

noncomputable def path_Parents (s_389 : List UInt8) : Option (List (List UInt8)) :=
  (path_Parts (s_389)).bind fun a_390 =>
    (iter (path_Parents_b0 ((↑(List.length a_390) : Int) - (↑(0 : Nat) : Int)) (a_390)) ([(47 : UInt8)], (0 : Int), [])).bind (fun t_403 =>
      some (t_403))

def cellarerlaw02_awake_res (r : Bool) : AV := (fun (r_414 : Bool) => AV.bool r_414) r

def cellarerlaw02_awake_out (r : Bool) : List AO := (fun (r_414 : Bool) => []) r

noncomputable def cellarerlaw02_awake  : Option (Bool) :=
  (path_Clean ([(47 : UInt8), (97 : UInt8), (47 : UInt8), (47 : UInt8), (98 : UInt8), (47 : UInt8), (46 : UInt8), (46 : UInt8), (47 : UInt8), (99 : UInt8), (47 : UInt8), (46 : UInt8)])).bind fun a_409 =>
    bif Decidable.decide (Prod.fst a_409 = [(47 : UInt8), (97 : UInt8), (47 : UInt8), (99 : UInt8)]) then
      bif Decidable.decide (Prod.snd a_409 = (0 : Int)) then
        (path_Right ([(47 : UInt8), (97 : UInt8), (47 : UInt8), (99 : UInt8)])).bind fun a_410 =>
          bif a_410 then
            (path_Name ([(97 : UInt8)])).bind fun a_411 =>
              bif a_411 then
                (path_Under ([(47 : UInt8)]) ([(47 : UInt8), (97 : UInt8)])).bind fun a_412 =>
                  some (a_412)
              else
                some (Bool.false)
          else
            some (Bool.false)
      else
        some (Bool.false)
    else
      some (Bool.false)

def cellarerlaw02_PathCleans_res (r : Bool) : AV := (fun (r_429 : Bool) => AV.bool r_429) r

def cellarerlaw02_PathCleans_out (r : Bool) : List AO := (fun (r_429 : Bool) => []) r

noncomputable def cellarerlaw02_PathCleans (s_416 : List UInt8) : Option (Bool) :=
  bif Decidable.decide ((2000 : Int) < (↑(List.length s_416) : Int)) then
    (cellarerlaw02_awake ).bind fun a_417 =>
      some (a_417)
  else
    (path_Clean (s_416)).bind fun a_418 =>
      (cellarerref02_Clean (s_416)).bind fun a_419 =>
        Option.bind (α := Unit ⊕ Unit) (
          bif !Decidable.decide (Prod.fst a_418 = Prod.fst a_419) then
            some (Sum.inl ())
          else
            bif !Decidable.decide (Prod.snd a_418 = Prod.snd a_419) then
              some (Sum.inl ())
            else
              (path_Right (s_416)).bind fun a_420 =>
                (cellarerref02_Right (s_416)).bind fun a_421 =>
                  bif !Decidable.decide (a_420 = a_421) then
                    some (Sum.inl ())
                  else
                    some (Sum.inr ())) (Sum.elim (fun t_422 =>
          some (Bool.false)) (fun t_423 =>
          bif !Decidable.decide (Prod.snd a_418 = (0 : Int)) then
            (cellarerlaw02_awake ).bind fun a_424 =>
              some (a_424)
          else
            (path_Right (Prod.fst a_418)).bind fun a_425 =>
              bif a_425 then
                (cellarerlaw02_awake ).bind fun a_426 =>
                  some (a_426)
              else
                some (Bool.false)))

def cellarerlaw02_PathNames_res (r : Bool) : AV := (fun (r_437 : Bool) => AV.bool r_437) r

def cellarerlaw02_PathNames_out (r : Bool) : List AO := (fun (r_437 : Bool) => []) r

noncomputable def cellarerlaw02_PathNames (s_431 : List UInt8) : Option (Bool) :=
  bif Decidable.decide ((2000 : Int) < (↑(List.length s_431) : Int)) then
    (cellarerlaw02_awake ).bind fun a_432 =>
      some (a_432)
  else
    (path_Name (s_431)).bind fun a_433 =>
      (cellarerref02_Name (s_431)).bind fun a_434 =>
        bif Decidable.decide (a_433 = a_434) then
          (cellarerlaw02_awake ).bind fun a_435 =>
            some (a_435)
        else
          some (Bool.false)

def cellarerlaw02_PathUnder_res (r : Bool) : AV := (fun (r_455 : Bool) => AV.bool r_455) r

def cellarerlaw02_PathUnder_out (r : Bool) : List AO := (fun (r_455 : Bool) => []) r

noncomputable def cellarerlaw02_PathUnder (dir_440 : List UInt8) (s_441 : List UInt8) : Option (Bool) :=
  Option.bind (α := Bool ⊕ Unit) (
    bif Decidable.decide ((2000 : Int) < (↑(List.length s_441) : Int)) then
      (cellarerlaw02_awake ).bind fun a_442 =>
        some (Sum.inl (a_442))
    else
      bif Decidable.decide ((2000 : Int) < (↑(List.length dir_440) : Int)) then
        (cellarerlaw02_awake ).bind fun a_443 =>
          some (Sum.inl (a_443))
      else
        some (Sum.inr ())) (Sum.elim (fun t_445 =>
    some (t_445)) (fun t_446 =>
    (path_Under (dir_440) (s_441)).bind fun a_447 =>
      (cellarerref02_Under (dir_440) (s_441)).bind fun a_448 =>
        bif Decidable.decide (a_447 = a_448) then
          (path_Under (s_441) (s_441)).bind fun a_449 =>
            bif !a_449 then
              bif !a_447 then
                (cellarerlaw02_awake ).bind fun a_450 =>
                  some (a_450)
              else
                (path_Under (s_441) (dir_440)).bind fun a_451 =>
                  bif !a_451 then
                    (cellarerlaw02_awake ).bind fun a_452 =>
                      some (a_452)
                  else
                    some (Bool.false)
            else
              some (Bool.false)
        else
          some (Bool.false)))

def cellarerlaw02_PathParts_res (r : Bool) : AV := (fun (r_483 : Bool) => AV.bool r_483) r

def cellarerlaw02_PathParts_out (r : Bool) : List AO := (fun (r_483 : Bool) => []) r

noncomputable def cellarerlaw02_PathParts_b0 (s_467 : List UInt8) (o0_469 : List (List UInt8)) (s_484 : Int) : Option ((Int) ⊕ (Unit ⊕ Unit)) :=
  bif Decidable.decide (s_484 < (↑(List.length o0_469) : Int) - (↑(0 : Nat) : Int)) then
    (path_Right (s_467)).bind fun a_470 =>
      bif a_470 then
        if (0 : Int) ≤ s_484 ∧ s_484 + (↑(0 : Nat) : Int) < (↑(List.length o0_469) : Int) then
          if (0 : Nat) + Int.toNat s_484 < List.length o0_469 then
            (path_Right (List.getD o0_469 ((0 : Nat) + Int.toNat s_484) [])).bind fun a_471 =>
              bif !a_471 then
                some (Sum.inr (Sum.inl ()))
              else
                if (0 : Int) ≤ s_484 ∧ s_484 + (↑(0 : Nat) : Int) < (↑(List.length o0_469) : Int) then
                  if (0 : Nat) + Int.toNat s_484 < List.length o0_469 then
                    (path_Under (List.getD o0_469 ((0 : Nat) + Int.toNat s_484) []) (s_467)).bind fun a_472 =>
                      bif !a_472 then
                        some (Sum.inr (Sum.inl ()))
                      else
                        some (Sum.inl (IntKind.wrap IntKind.i64 (s_484 + (1 : Int))))
                  else none
                else none
          else none
        else none
      else
        some (Sum.inl (IntKind.wrap IntKind.i64 (s_484 + (1 : Int))))
  else
    some (Sum.inr (Sum.inr ()))

noncomputable def cellarerlaw02_PathParts (s_457 : List UInt8) : Option (Bool) :=
  bif Decidable.decide ((1000 : Int) < (↑(List.length s_457) : Int)) then
    (cellarerlaw02_awake ).bind fun a_458 =>
      some (a_458)
  else
    (path_Parents (s_457)).bind fun a_459 =>
      Option.bind (α := Unit ⊕ Unit) (
        (path_Parts (s_457)).bind fun a_460 =>
          (cellarerref02_Parts (s_457)).bind fun a_461 =>
            (cellarerref02_Same (List.drop (0 : Nat) a_460) (List.drop (0 : Nat) a_461)).bind fun a_462 =>
              bif !a_462 then
                some (Sum.inl ())
              else
                (cellarerref02_Parents (s_457)).bind fun a_463 =>
                  (cellarerref02_Same (List.drop (0 : Nat) a_459) (List.drop (0 : Nat) a_463)).bind fun a_464 =>
                    bif !a_464 then
                      some (Sum.inl ())
                    else
                      some (Sum.inr ())) (Sum.elim (fun t_465 =>
        some (Bool.false)) (fun t_466 =>
        (iter (cellarerlaw02_PathParts_b0 (s_457) (a_459)) ((0 : Int))).bind (Sum.elim (fun t_473 =>
          some (Bool.false)) (fun t_474 =>
          (path_Right (s_457)).bind fun a_475 =>
            bif !a_475 then
              (cellarerlaw02_awake ).bind fun a_476 =>
                some (a_476)
            else
              (path_Parts (s_457)).bind fun a_477 =>
                (cellarerref02_Joined (List.drop (0 : Nat) a_477)).bind fun a_478 =>
                  bif Decidable.decide (a_478 = s_457) then
                    (cellarerlaw02_awake ).bind fun a_479 =>
                      some (a_479)
                  else
                    some (Bool.false)))))

def cellarerlaw02_PathSplits_res (r : Bool) : AV := (fun (r_511 : Bool) => AV.bool r_511) r

def cellarerlaw02_PathSplits_out (r : Bool) : List AO := (fun (r_511 : Bool) => []) r

noncomputable def cellarerlaw02_PathSplits (s_489 : List UInt8) (dir_490 : List UInt8) (name_491 : List UInt8) : Option (Bool) :=
  Option.bind (α := Bool ⊕ Unit) (
    bif Decidable.decide ((2000 : Int) < (↑(List.length s_489) : Int)) then
      (cellarerlaw02_awake ).bind fun a_492 =>
        some (Sum.inl (a_492))
    else
      bif Decidable.decide ((2000 : Int) < (↑(List.length dir_490) : Int)) then
        (cellarerlaw02_awake ).bind fun a_493 =>
          some (Sum.inl (a_493))
      else
        bif Decidable.decide ((2000 : Int) < (↑(List.length name_491) : Int)) then
          (cellarerlaw02_awake ).bind fun a_494 =>
            some (Sum.inl (a_494))
        else
          some (Sum.inr ())) (Sum.elim (fun t_496 =>
    some (t_496)) (fun t_497 =>
    (path_Split (s_489)).bind fun a_498 =>
      (cellarerref02_Split (s_489)).bind fun a_499 =>
        Option.bind (α := Unit ⊕ Unit) (
          bif !Decidable.decide (Prod.fst a_498 = Prod.fst a_499) then
            some (Sum.inl ())
          else
            bif !Decidable.decide (Prod.snd a_498 = Prod.snd a_499) then
              some (Sum.inl ())
            else
              (path_Join (dir_490) (name_491)).bind fun a_500 =>
                (cellarerref02_Join (dir_490) (name_491)).bind fun a_501 =>
                  bif !Decidable.decide (a_500 = a_501) then
                    some (Sum.inl ())
                  else
                    some (Sum.inr ())) (Sum.elim (fun t_502 =>
          some (Bool.false)) (fun t_503 =>
          (path_Right (s_489)).bind fun a_504 =>
            bif !a_504 then
              (cellarerlaw02_awake ).bind fun a_505 =>
                some (a_505)
            else
              (path_Join (Prod.fst a_498) (Prod.snd a_498)).bind fun a_506 =>
                bif Decidable.decide (a_506 = s_489) then
                  (cellarerlaw02_awake ).bind fun a_507 =>
                    some (a_507)
                else
                  some (Bool.false)))))

def cellarerlaw02_PathSorts_res (r : Bool) : AV := (fun (r_535 : Bool) => AV.bool r_535) r

def cellarerlaw02_PathSorts_out (r : Bool) : List AO := (fun (r_535 : Bool) => []) r

noncomputable def cellarerlaw02_PathSorts_b0 (l_515 : List (List UInt8)) (s_536 : Int) : Option ((Int) ⊕ (Bool ⊕ Unit)) :=
  bif Decidable.decide (s_536 < (↑(List.length l_515) : Int)) then
    if (0 : Int) ≤ s_536 ∧ s_536 < (↑(List.length l_515) : Int) then
      bif Decidable.decide ((300 : Int) < (↑(List.length (List.getD l_515 (Int.toNat s_536) [])) : Int)) then
        (cellarerlaw02_awake ).bind fun a_517 =>
          some (Sum.inr (Sum.inl (a_517)))
      else
        some (Sum.inl (IntKind.wrap IntKind.i64 (s_536 + (1 : Int))))
    else none
  else
    some (Sum.inr (Sum.inr ()))

noncomputable def cellarerlaw02_PathSorts_b1 (o0_524 : List (List UInt8)) (s_537 : Int) : Option ((Int) ⊕ (Unit ⊕ Unit)) :=
  bif Decidable.decide (s_537 < (↑(List.length o0_524) : Int) - (↑(0 : Nat) : Int)) then
    bif Decidable.decide ((0 : Int) < s_537) then
      if (0 : Int) ≤ IntKind.wrap IntKind.i64 (s_537 - (1 : Int)) ∧ IntKind.wrap IntKind.i64 (s_537 - (1 : Int)) + (↑(0 : Nat) : Int) < (↑(List.length o0_524) : Int) then
        if (0 : Nat) + Int.toNat (IntKind.wrap IntKind.i64 (s_537 - (1 : Int))) < List.length o0_524 then
          if (0 : Int) ≤ s_537 ∧ s_537 + (↑(0 : Nat) : Int) < (↑(List.length o0_524) : Int) then
            if (0 : Nat) + Int.toNat s_537 < List.length o0_524 then
              bif !Go.Op.bytesLess (List.getD o0_524 ((0 : Nat) + Int.toNat (IntKind.wrap IntKind.i64 (s_537 - (1 : Int)))) []) (List.getD o0_524 ((0 : Nat) + Int.toNat s_537) []) then
                some (Sum.inr (Sum.inl ()))
              else
                some (Sum.inl (IntKind.wrap IntKind.i64 (s_537 + (1 : Int))))
            else none
          else none
        else none
      else none
    else
      some (Sum.inl (IntKind.wrap IntKind.i64 (s_537 + (1 : Int))))
  else
    some (Sum.inr (Sum.inr ()))

noncomputable def cellarerlaw02_PathSorts (l_513 : List (List UInt8)) : Option (Bool) :=
  bif Decidable.decide ((60 : Int) < (↑(List.length l_513) : Int)) then
    (cellarerlaw02_awake ).bind fun a_514 =>
      some (a_514)
  else
    (iter (cellarerlaw02_PathSorts_b0 (l_513)) ((0 : Int))).bind (Sum.elim (fun t_519 =>
      some (t_519)) (fun t_520 =>
      (path_Sorted (l_513)).bind fun a_521 =>
        (iter (cellarerlaw02_PathSorts_b1 (a_521)) ((0 : Int))).bind (Sum.elim (fun t_525 =>
          some (Bool.false)) (fun t_526 =>
          (cellarerref02_Sorted (l_513)).bind fun a_527 =>
            (cellarerref02_Same (List.drop (0 : Nat) a_521) (List.drop (0 : Nat) a_527)).bind fun a_528 =>
              bif a_528 then
                (path_Sorted (List.drop (0 : Nat) a_521)).bind fun a_529 =>
                  (cellarerref02_Same (List.drop (0 : Nat) a_529) (List.drop (0 : Nat) a_521)).bind fun a_530 =>
                    bif a_530 then
                      (cellarerlaw02_awake ).bind fun a_531 =>
                        some (a_531)
                    else
                      some (Bool.false)
              else
                some (Bool.false)))))

end Go.Cellar
