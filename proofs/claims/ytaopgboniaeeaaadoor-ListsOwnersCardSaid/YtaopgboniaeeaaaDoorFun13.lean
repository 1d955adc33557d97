/- The program's functions, as plain Lean functions: printed by a program out of the translation. No condition. -/
import Derived.Test.YtaopgboniaeeaaaDoorIns13
set_option maxRecDepth 4000
set_option synthInstance.maxHeartbeats 2000000
set_option synthInstance.maxSize 100000
set_option linter.unusedVariables false
namespace Go.Cellar
open Go

def stringslite_HasPrefix_res (r : Bool) : AV := (fun (r_14 : Bool) => AV.bool r_14) r

def stringslite_HasPrefix_out (r : Bool) : List AO := (fun (r_14 : Bool) => []) r

noncomputable def stringslite_HasPrefix (s_11 : List UInt8) (prefix_12 : List UInt8) : Option (Bool) :=
  bif Decidable.decide ((↑(List.length prefix_12) : Int) ≤ (↑(List.length s_11) : Int)) then
    if (0 : Int) ≤ (0 : Int) ∧ (0 : Int) ≤ (↑(List.length prefix_12) : Int) ∧ (↑(List.length prefix_12) : Int) ≤ (↑(List.length s_11) : Int) then
      some (Decidable.decide (List.drop (Int.toNat (0 : Int)) (List.take (Int.toNat (↑(List.length prefix_12) : Int)) s_11) = prefix_12))
    else none
  else
    some (Bool.false)

def strings_HasPrefix_res (r : Bool) : AV := (fun (r_17 : Bool) => AV.bool r_17) r

def strings_HasPrefix_out (r : Bool) : List AO := (fun (r_17 : Bool) => []) r

noncomputable def strings_HasPrefix (s_9 : List UInt8) (prefix_10 : List UInt8) : Option (Bool) :=
  (stringslite_HasPrefix (s_9) (prefix_10)).bind fun a_15 =>
    some (a_15)

def path_plain_res (r : Bool) : AV := (fun (r_21 : Bool) => AV.bool r_21) r

def path_plain_out (r : Bool) : List AO := (fun (r_21 : Bool) => []) r

noncomputable def path_plain_b0 (s_4 : List UInt8) (t_5 : Int) (s_22 : Int) : Option ((Int) ⊕ (Unit ⊕ Unit)) :=
  bif Decidable.decide (s_22 < t_5) then
    if (0 : Int) ≤ s_22 ∧ s_22 < (↑(List.length s_4) : Int) then
      bif Decidable.decide ((↑(UInt8.toNat (List.getD s_4 (Int.toNat s_22) (0 : UInt8))) : Int) < (33 : Int)) then
        some (Sum.inr (Sum.inl ()))
      else
        if (0 : Int) ≤ s_22 ∧ s_22 < (↑(List.length s_4) : Int) then
          bif Decidable.decide ((126 : Int) < (↑(UInt8.toNat (List.getD s_4 (Int.toNat s_22) (0 : UInt8))) : Int)) then
            some (Sum.inr (Sum.inl ()))
          else
            some (Sum.inl (IntKind.wrap IntKind.i64 (s_22 + (1 : Int))))
        else none
    else none
  else
    some (Sum.inr (Sum.inr ()))

noncomputable def path_plain (s_3 : List UInt8) : Option (Bool) :=
  (iter (path_plain_b0 (s_3) ((↑(List.length s_3) : Int))) ((0 : Int))).bind (Sum.elim (fun t_7 =>
    some (Bool.false)) (fun t_8 =>
    (strings_HasPrefix (s_3) ([(47 : UInt8)])).bind fun a_18 =>
      some (a_18)))

def strings_Count_res (r : Int) : AV := (fun (r_54 : Int) => AV.int IntKind.i64 r_54) r

def strings_Count_out (r : Int) : List AO := (fun (r_54 : Int) => []) r

noncomputable def strings_Count_b0 (substr_47 : List UInt8) (s_55 : List UInt8 × Int) : Option ((List UInt8 × Int) ⊕ (Int)) :=
  (strings_Index (Prod.fst s_55) (substr_47)).bind fun a_49 =>
    bif Decidable.decide (a_49 = (-1 : Int)) then
      some (Sum.inr (Prod.snd s_55))
    else
      if (0 : Int) ≤ IntKind.wrap IntKind.i64 (a_49 + (↑(List.length substr_47) : Int)) ∧ IntKind.wrap IntKind.i64 (a_49 + (↑(List.length substr_47) : Int)) ≤ (↑(List.length (Prod.fst s_55)) : Int) ∧ (↑(List.length (Prod.fst s_55)) : Int) ≤ (↑(List.length (Prod.fst s_55)) : Int) then
        some (Sum.inl (List.drop (Int.toNat (IntKind.wrap IntKind.i64 (a_49 + (↑(List.length substr_47) : Int)))) (List.take (Int.toNat (↑(List.length (Prod.fst s_55)) : Int)) (Prod.fst s_55)), IntKind.wrap IntKind.i64 (Prod.snd s_55 + (1 : Int))))
      else none

noncomputable def strings_Count (s_44 : List UInt8) (substr_45 : List UInt8) : Option (Int) :=
  bif Decidable.decide ((↑(List.length substr_45) : Int) = (0 : Int)) then
    none
  else
    bif Decidable.decide ((↑(List.length substr_45) : Int) = (1 : Int)) then
      if (0 : Int) ≤ (0 : Int) ∧ (0 : Int) < (↑(List.length substr_45) : Int) then
        some ((↑(List.count (Nat.toUInt8 (Int.toNat (↑(UInt8.toNat (List.getD substr_45 (Int.toNat (0 : Int)) (0 : UInt8))) : Int))) s_44) : Int))
      else none
    else
      (iter (strings_Count_b0 (substr_45)) (s_44, (0 : Int))).bind (fun t_51 =>
        some (t_51))

def strings_genSplit_res (r : List (List UInt8)) : AV := (fun (r_74 : List (List UInt8)) => AV.view (0 : Nat) (0 : Nat) Option.none) r

def strings_genSplit_out (r : List (List UInt8)) : List AO := (fun (r_74 : List (List UInt8)) => [AO.row Ty.str r_74]) r

noncomputable def strings_genSplit_b0 (sep_61 : List UInt8) (sepSave_62 : Int) (n_63 : Int) (s_75 : List UInt8 × Int × List (List UInt8)) : Option ((List UInt8 × Int × List (List UInt8)) ⊕ (List UInt8 × Int × List (List UInt8))) :=
  bif Decidable.decide (Prod.fst (Prod.snd s_75) < n_63) then
    (strings_Index (Prod.fst s_75) (sep_61)).bind fun a_66 =>
      bif Decidable.decide (a_66 < (0 : Int)) then
        some (Sum.inr (Prod.fst s_75, Prod.fst (Prod.snd s_75), Prod.snd (Prod.snd s_75)))
      else
        if (0 : Int) ≤ (0 : Int) ∧ (0 : Int) ≤ IntKind.wrap IntKind.i64 (a_66 + sepSave_62) ∧ IntKind.wrap IntKind.i64 (a_66 + sepSave_62) ≤ (↑(List.length (Prod.fst s_75)) : Int) then
          if (0 : Int) ≤ Prod.fst (Prod.snd s_75) ∧ Prod.fst (Prod.snd s_75) + (↑(0 : Nat) : Int) < (↑(List.length (Prod.snd (Prod.snd s_75))) : Int) then
            if (0 : Nat) + Int.toNat (Prod.fst (Prod.snd s_75)) < List.length (Prod.snd (Prod.snd s_75)) then
              if (0 : Int) ≤ IntKind.wrap IntKind.i64 (a_66 + (↑(List.length sep_61) : Int)) ∧ IntKind.wrap IntKind.i64 (a_66 + (↑(List.length sep_61) : Int)) ≤ (↑(List.length (Prod.fst s_75)) : Int) ∧ (↑(List.length (Prod.fst s_75)) : Int) ≤ (↑(List.length (Prod.fst s_75)) : Int) then
                some (Sum.inl (List.drop (Int.toNat (IntKind.wrap IntKind.i64 (a_66 + (↑(List.length sep_61) : Int)))) (List.take (Int.toNat (↑(List.length (Prod.fst s_75)) : Int)) (Prod.fst s_75)), IntKind.wrap IntKind.i64 (Prod.fst (Prod.snd s_75) + (1 : Int)), List.set (Prod.snd (Prod.snd s_75)) ((0 : Nat) + Int.toNat (Prod.fst (Prod.snd s_75))) (List.drop (Int.toNat (0 : Int)) (List.take (Int.toNat (IntKind.wrap IntKind.i64 (a_66 + sepSave_62))) (Prod.fst s_75)))))
              else none
            else none
          else none
        else none
  else
    some (Sum.inr (Prod.fst s_75, Prod.fst (Prod.snd s_75), Prod.snd (Prod.snd s_75)))

noncomputable def strings_genSplit (s_38 : List UInt8) (sep_39 : List UInt8) (sepSave_40 : Int) (n_41 : Int) : Option (List (List UInt8)) :=
  bif Decidable.decide (n_41 = (0 : Int)) then
    some ([])
  else
    bif Decidable.decide (sep_39 = []) then
      none
    else
      Option.bind (α := Int) (
        bif Decidable.decide (n_41 < (0 : Int)) then
          (strings_Count (s_38) (sep_39)).bind fun a_57 =>
            some (IntKind.wrap IntKind.i64 (a_57 + (1 : Int)))
        else
          some (n_41)) (fun t_59 =>
        if ((0 : Int) ≤ if IntKind.wrap IntKind.i64 ((↑(List.length s_38) : Int) + (1 : Int)) < t_59 then IntKind.wrap IntKind.i64 ((↑(List.length s_38) : Int) + (1 : Int)) else t_59) ∧ ((if IntKind.wrap IntKind.i64 ((↑(List.length s_38) : Int) + (1 : Int)) < t_59 then IntKind.wrap IntKind.i64 ((↑(List.length s_38) : Int) + (1 : Int)) else t_59) ≤ if IntKind.wrap IntKind.i64 ((↑(List.length s_38) : Int) + (1 : Int)) < t_59 then IntKind.wrap IntKind.i64 ((↑(List.length s_38) : Int) + (1 : Int)) else t_59) ∧ (if IntKind.wrap IntKind.i64 ((↑(List.length s_38) : Int) + (1 : Int)) < t_59 then IntKind.wrap IntKind.i64 ((↑(List.length s_38) : Int) + (1 : Int)) else t_59) ≤ (140737488355328 : Int) ∧ ((↑(16 : Nat) : Int) * if IntKind.wrap IntKind.i64 ((↑(List.length s_38) : Int) + (1 : Int)) < t_59 then IntKind.wrap IntKind.i64 ((↑(List.length s_38) : Int) + (1 : Int)) else t_59) ≤ (140737488355328 : Int) then
          (iter (strings_genSplit_b0 (sep_39) (sepSave_40) (IntKind.wrap IntKind.i64 ((if IntKind.wrap IntKind.i64 ((↑(List.length s_38) : Int) + (1 : Int)) < t_59 then IntKind.wrap IntKind.i64 ((↑(List.length s_38) : Int) + (1 : Int)) else t_59) - (1 : Int)))) (s_38, (0 : Int), List.replicate (Int.toNat (if IntKind.wrap IntKind.i64 ((↑(List.length s_38) : Int) + (1 : Int)) < t_59 then IntKind.wrap IntKind.i64 ((↑(List.length s_38) : Int) + (1 : Int)) else t_59)) [])).bind (fun t_70 =>
            if (0 : Int) ≤ Prod.fst (Prod.snd t_70) ∧ Prod.fst (Prod.snd t_70) + (↑(0 : Nat) : Int) < (↑(List.length (Prod.snd (Prod.snd t_70))) : Int) then
              if (0 : Nat) + Int.toNat (Prod.fst (Prod.snd t_70)) < List.length (Prod.snd (Prod.snd t_70)) then
                if (0 : Int) ≤ (0 : Int) ∧ (0 : Int) ≤ IntKind.wrap IntKind.i64 (Prod.fst (Prod.snd t_70) + (1 : Int)) ∧ (↑(0 : Nat) : Int) + IntKind.wrap IntKind.i64 (Prod.fst (Prod.snd t_70) + (1 : Int)) ≤ (↑(List.length (List.set (Prod.snd (Prod.snd t_70)) ((0 : Nat) + Int.toNat (Prod.fst (Prod.snd t_70))) (Prod.fst t_70))) : Int) then
                  some (List.take ((0 : Nat) + Int.toNat (IntKind.wrap IntKind.i64 (Prod.fst (Prod.snd t_70) + (1 : Int)))) (List.set (Prod.snd (Prod.snd t_70)) ((0 : Nat) + Int.toNat (Prod.fst (Prod.snd t_70))) (Prod.fst t_70)))
                else none
              else none
            else none)
        else none)

def strings_Split_res (r : List (List UInt8)) : AV := (fun (r_79 : List (List UInt8)) => AV.view (0 : Nat) (0 : Nat) Option.none) r

def strings_Split_out (r : List (List UInt8)) : List AO := (fun (r_79 : List (List UInt8)) => [AO.row Ty.str r_79]) r

noncomputable def strings_Split (s_26 : List UInt8) (sep_27 : List UInt8) : Option (List (List UInt8)) :=
  (strings_genSplit (s_26) (sep_27) ((0 : Int)) ((-1 : Int))).bind fun a_77 =>
    some (a_77)

def path_Parts_1_res (r : Bool) : AV := (fun (r_87 : Bool) => AV.bool r_87) r

def path_Parts_1_out (r : Bool) : List AO := (fun (r_87 : Bool) => []) r

noncomputable def path_Parts_1 (p_85 : List UInt8) : Option (Bool) :=
  some (!Decidable.decide (p_85 = []))

def path_keep_string__res (r : List (List UInt8)) : AV := (fun (r_98 : List (List UInt8)) => AV.view (0 : Nat) (0 : Nat) Option.none) r

def path_keep_string__out (r : List (List UInt8)) : List AO := (fun (r_98 : List (List UInt8)) => [AO.row Ty.str r_98]) r

noncomputable def path_keep_string__b0 (t_89 : List (List UInt8)) (t_90 : Int) (s_99 : Int × List (List UInt8)) : Option ((Int × List (List UInt8)) ⊕ (List (List UInt8))) :=
  bif Decidable.decide (Prod.fst s_99 < t_90) then
    if (0 : Int) ≤ Prod.fst s_99 ∧ Prod.fst s_99 < (↑(List.length t_89) : Int) then
      (path_Parts_1 (List.getD t_89 (Int.toNat (Prod.fst s_99)) [])).bind fun a_93 =>
        bif a_93 then
          if (List.length (Prod.snd s_99) + List.length ((fun (x : List (Ty.T Ty.str)) => x) [List.getD t_89 (Int.toNat (Prod.fst s_99)) []])) * (16 : Nat) ≤ (17592186044416 : Nat) then
            some (Sum.inl (IntKind.wrap IntKind.i64 (Prod.fst s_99 + (1 : Int)), Prod.snd s_99 ++ [List.getD t_89 (Int.toNat (Prod.fst s_99)) []]))
          else none
        else
          some (Sum.inl (IntKind.wrap IntKind.i64 (Prod.fst s_99 + (1 : Int)), Prod.snd s_99))
    else none
  else
    some (Sum.inr (Prod.snd s_99))

noncomputable def path_keep_string_ (l_81 : List (List UInt8)) : Option (List (List UInt8)) :=
  (iter (path_keep_string__b0 (l_81) ((↑(List.length l_81) : Int))) ((0 : Int), [])).bind (fun t_95 =>
    some (t_95))

def path_Parts_res (r : List (List UInt8)) : AV := (fun (r_103 : List (List UInt8)) => AV.view (0 : Nat) (0 : Nat) Option.none) r

def path_Parts_out (r : List (List UInt8)) : List AO := (fun (r_103 : List (List UInt8)) => [AO.row Ty.str r_103]) r

noncomputable def path_Parts (s_25 : List UInt8) : Option (List (List UInt8)) :=
  (strings_Split (s_25) ([(47 : UInt8)])).bind fun a_80 =>
    (path_keep_string_ (List.drop (0 : Nat) a_80)).bind fun a_101 =>
      some (a_101)

def path_Clean_res (r : List UInt8 × Int) : AV := (fun (r_118 : List UInt8 × Int) => AV.tup [AV.str (Prod.fst r_118), AV.int IntKind.i64 (Prod.snd r_118)]) r

def path_Clean_out (r : List UInt8 × Int) : List AO := (fun (r_118 : List UInt8 × Int) => []) r

noncomputable def path_Clean_b0 (t_108 : Int) (o1_111 : List (List UInt8)) (s_119 : Int × List (List UInt8)) : Option ((Int × List (List UInt8)) ⊕ (List (List UInt8))) :=
  bif Decidable.decide (Prod.fst s_119 < t_108) then
    if (0 : Int) ≤ Prod.fst s_119 ∧ Prod.fst s_119 + (↑(0 : Nat) : Int) < (↑(List.length o1_111) : Int) then
      if (0 : Nat) + Int.toNat (Prod.fst s_119) < List.length o1_111 then
        bif Decidable.decide (List.getD o1_111 ((0 : Nat) + Int.toNat (Prod.fst s_119)) [] = [(46 : UInt8)]) then
          some (Sum.inl (IntKind.wrap IntKind.i64 (Prod.fst s_119 + (1 : Int)), Prod.snd s_119))
        else
          bif Decidable.decide (List.getD o1_111 ((0 : Nat) + Int.toNat (Prod.fst s_119)) [] = [(46 : UInt8), (46 : UInt8)]) then
            if (0 : Int) ≤ (0 : Int) ∧ (0 : Int) ≤ IntKind.wrap IntKind.i64 ((if (1 : Int) > (↑(List.length (Prod.snd s_119)) : Int) - (↑(0 : Nat) : Int) then (1 : Int) else (↑(List.length (Prod.snd s_119)) : Int) - (↑(0 : Nat) : Int)) - (1 : Int)) ∧ (↑(0 : Nat) : Int) + IntKind.wrap IntKind.i64 ((if (1 : Int) > (↑(List.length (Prod.snd s_119)) : Int) - (↑(0 : Nat) : Int) then (1 : Int) else (↑(List.length (Prod.snd s_119)) : Int) - (↑(0 : Nat) : Int)) - (1 : Int)) ≤ (↑(List.length (Prod.snd s_119)) : Int) then
              some (Sum.inl (IntKind.wrap IntKind.i64 (Prod.fst s_119 + (1 : Int)), List.take ((0 : Nat) + Int.toNat (IntKind.wrap IntKind.i64 ((if (1 : Int) > (↑(List.length (Prod.snd s_119)) : Int) - (↑(0 : Nat) : Int) then (1 : Int) else (↑(List.length (Prod.snd s_119)) : Int) - (↑(0 : Nat) : Int)) - (1 : Int)))) (Prod.snd s_119)))
            else none
          else
            if (List.length (Prod.snd s_119) + List.length ((fun (x : List (Ty.T Ty.str)) => x) [List.getD o1_111 ((0 : Nat) + Int.toNat (Prod.fst s_119)) []])) * (16 : Nat) ≤ (17592186044416 : Nat) then
              some (Sum.inl (IntKind.wrap IntKind.i64 (Prod.fst s_119 + (1 : Int)), Prod.snd s_119 ++ [List.getD o1_111 ((0 : Nat) + Int.toNat (Prod.fst s_119)) []]))
            else none
      else none
    else none
  else
    some (Sum.inr (Prod.snd s_119))

noncomputable def path_Clean (s_2 : List UInt8) : Option (List UInt8 × Int) :=
  (path_plain (s_2)).bind fun a_24 =>
    bif !a_24 then
      some ([], (1 : Int))
    else
      (path_Parts (s_2)).bind fun a_104 =>
        (iter (path_Clean_b0 ((↑(List.length a_104) : Int) - (↑(0 : Nat) : Int)) (a_104)) ((0 : Int), [])).bind (fun t_113 =>
          (strings_Join (List.drop (0 : Nat) t_113) ([(47 : UInt8)])).bind fun a_114 =>
            if List.length ((fun (x : List UInt8) => x) [(47 : UInt8)]) + List.length a_114 ≤ (140737488355328 : Nat) then
              bif Decidable.decide ((200 : Int) < (↑(List.length ([(47 : UInt8)] ++ a_114)) : Int)) then
                some ([], (8 : Int))
              else
                some ([(47 : UInt8)] ++ a_114, (0 : Int))
            else none)

def path_Right_res (r : Bool) : AV := (fun (r_123 : Bool) => AV.bool r_123) r

def path_Right_out (r : Bool) : List AO := (fun (r_123 : Bool) => []) r

noncomputable def path_Right (s_1 : List UInt8) : Option (Bool) :=
  (path_Clean (s_1)).bind fun a_121 =>
    bif Decidable.decide (Prod.snd a_121 = (0 : Int)) then
      some (Decidable.decide (Prod.fst a_121 = s_1))
    else
      some (Bool.false)

def path_Name_res (r : Bool) : AV := (fun (r_139 : Bool) => AV.bool r_139) r

def path_Name_out (r : Bool) : List AO := (fun (r_139 : Bool) => []) r

noncomputable def path_Name_b0 (s_128 : List UInt8) (t_129 : Int) (s_140 : Int) : Option ((Int) ⊕ (Unit ⊕ Unit)) :=
  bif Decidable.decide (s_140 < t_129) then
    if (0 : Int) ≤ s_140 ∧ s_140 < (↑(List.length s_128) : Int) then
      Option.bind (α := Bool) (
        bif Decidable.decide ((97 : Int) ≤ (↑(UInt8.toNat (List.getD s_128 (Int.toNat s_140) (0 : UInt8))) : Int)) then
          bif Decidable.decide ((↑(UInt8.toNat (List.getD s_128 (Int.toNat s_140) (0 : UInt8))) : Int) ≤ (122 : Int)) then
            some (Bool.true)
          else
            bif Decidable.decide ((48 : Int) ≤ (↑(UInt8.toNat (List.getD s_128 (Int.toNat s_140) (0 : UInt8))) : Int)) then
              some (Decidable.decide ((↑(UInt8.toNat (List.getD s_128 (Int.toNat s_140) (0 : UInt8))) : Int) ≤ (57 : Int)))
            else
              some (Bool.false)
        else
          bif Decidable.decide ((48 : Int) ≤ (↑(UInt8.toNat (List.getD s_128 (Int.toNat s_140) (0 : UInt8))) : Int)) then
            some (Decidable.decide ((↑(UInt8.toNat (List.getD s_128 (Int.toNat s_140) (0 : UInt8))) : Int) ≤ (57 : Int)))
          else
            some (Bool.false)) (fun t_132 =>
        bif !t_132 then
          bif Decidable.decide (s_140 = (0 : Int)) then
            some (Sum.inr (Sum.inl ()))
          else
            bif !Decidable.decide ((↑(UInt8.toNat (List.getD s_128 (Int.toNat s_140) (0 : UInt8))) : Int) = (43 : Int)) then
              bif !Decidable.decide ((↑(UInt8.toNat (List.getD s_128 (Int.toNat s_140) (0 : UInt8))) : Int) = (45 : Int)) then
                bif !Decidable.decide ((↑(UInt8.toNat (List.getD s_128 (Int.toNat s_140) (0 : UInt8))) : Int) = (46 : Int)) then
                  some (Sum.inr (Sum.inl ()))
                else
                  some (Sum.inl (IntKind.wrap IntKind.i64 (s_140 + (1 : Int))))
              else
                some (Sum.inl (IntKind.wrap IntKind.i64 (s_140 + (1 : Int))))
            else
              some (Sum.inl (IntKind.wrap IntKind.i64 (s_140 + (1 : Int))))
        else
          some (Sum.inl (IntKind.wrap IntKind.i64 (s_140 + (1 : Int)))))
    else none
  else
    some (Sum.inr (Sum.inr ()))

noncomputable def path_Name (s_125 : List UInt8) : Option (Bool) :=
  Option.bind (α := Unit ⊕ Unit) (
    bif Decidable.decide ((↑(List.length s_125) : Int) = (0 : Int)) then
      some (Sum.inl ())
    else
      bif Decidable.decide ((60 : Int) < (↑(List.length s_125) : Int)) then
        some (Sum.inl ())
      else
        some (Sum.inr ())) (Sum.elim (fun t_126 =>
    some (Bool.false)) (fun t_127 =>
    (iter (path_Name_b0 (s_125) ((↑(List.length s_125) : Int))) ((0 : Int))).bind (Sum.elim (fun t_134 =>
      some (Bool.false)) (fun t_135 =>
      some (Bool.true)))))

def cellarerref02_Parts_res (r : List (List UInt8)) : AV := (fun (r_164 : List (List UInt8)) => AV.view (0 : Nat) (0 : Nat) Option.none) r

def cellarerref02_Parts_out (r : List (List UInt8)) : List AO := (fun (r_164 : List (List UInt8)) => [AO.row Ty.str r_164]) r

noncomputable def cellarerref02_Parts_b0 (s_155 : List UInt8) (s_165 : List UInt8 × Int × List (List UInt8)) : Option ((List UInt8 × Int × List (List UInt8)) ⊕ (List UInt8 × List (List UInt8))) :=
  bif Decidable.decide (Prod.fst (Prod.snd s_165) < (↑(List.length s_155) : Int)) then
    if (0 : Int) ≤ Prod.fst (Prod.snd s_165) ∧ Prod.fst (Prod.snd s_165) < (↑(List.length s_155) : Int) then
      bif !Decidable.decide ((↑(UInt8.toNat (List.getD s_155 (Int.toNat (Prod.fst (Prod.snd s_165))) (0 : UInt8))) : Int) = (47 : Int)) then
        if (0 : Int) ≤ Prod.fst (Prod.snd s_165) ∧ Prod.fst (Prod.snd s_165) ≤ IntKind.wrap IntKind.i64 (Prod.fst (Prod.snd s_165) + (1 : Int)) ∧ IntKind.wrap IntKind.i64 (Prod.fst (Prod.snd s_165) + (1 : Int)) ≤ (↑(List.length s_155) : Int) then
          if List.length (Prod.fst s_165) + List.length (List.drop (Int.toNat (Prod.fst (Prod.snd s_165))) (List.take (Int.toNat (IntKind.wrap IntKind.i64 (Prod.fst (Prod.snd s_165) + (1 : Int)))) s_155)) ≤ (140737488355328 : Nat) then
            some (Sum.inl (Prod.fst s_165 ++ List.drop (Int.toNat (Prod.fst (Prod.snd s_165))) (List.take (Int.toNat (IntKind.wrap IntKind.i64 (Prod.fst (Prod.snd s_165) + (1 : Int)))) s_155), IntKind.wrap IntKind.i64 (Prod.fst (Prod.snd s_165) + (1 : Int)), Prod.snd (Prod.snd s_165)))
          else none
        else none
      else
        bif !Decidable.decide (Prod.fst s_165 = []) then
          if (List.length (Prod.snd (Prod.snd s_165)) + List.length ((fun (x : List (Ty.T Ty.str)) => x) [Prod.fst s_165])) * (16 : Nat) ≤ (17592186044416 : Nat) then
            some (Sum.inl ([], IntKind.wrap IntKind.i64 (Prod.fst (Prod.snd s_165) + (1 : Int)), Prod.snd (Prod.snd s_165) ++ [Prod.fst s_165]))
          else none
        else
          some (Sum.inl ([], IntKind.wrap IntKind.i64 (Prod.fst (Prod.snd s_165) + (1 : Int)), Prod.snd (Prod.snd s_165)))
    else none
  else
    some (Sum.inr (Prod.fst s_165, Prod.snd (Prod.snd s_165)))

noncomputable def cellarerref02_Parts (s_151 : List UInt8) : Option (List (List UInt8)) :=
  (iter (cellarerref02_Parts_b0 (s_151)) ([], (0 : Int), [])).bind (fun t_161 =>
    bif !Decidable.decide (Prod.fst t_161 = []) then
      if (List.length (Prod.snd t_161) + List.length ((fun (x : List (Ty.T Ty.str)) => x) [Prod.fst t_161])) * (16 : Nat) ≤ (17592186044416 : Nat) then
        some (Prod.snd t_161 ++ [Prod.fst t_161])
      else none
    else
      some (Prod.snd t_161))

def cellarerref02_Joined_res (r : List UInt8) : AV := (fun (r_183 : List UInt8) => AV.str r_183) r

def cellarerref02_Joined_out (r : List UInt8) : List AO := (fun (r_183 : List UInt8) => []) r

noncomputable def cellarerref02_Joined_b0 (l_176 : List (List UInt8)) (s_184 : List UInt8 × Int) : Option ((List UInt8 × Int) ⊕ (List UInt8)) :=
  bif Decidable.decide (Prod.snd s_184 < (↑(List.length l_176) : Int)) then
    if List.length (Prod.fst s_184) + List.length ((fun (x : List UInt8) => x) [(47 : UInt8)]) ≤ (140737488355328 : Nat) then
      if (0 : Int) ≤ Prod.snd s_184 ∧ Prod.snd s_184 < (↑(List.length l_176) : Int) then
        if List.length (Prod.fst s_184 ++ [(47 : UInt8)]) + List.length (List.getD l_176 (Int.toNat (Prod.snd s_184)) []) ≤ (140737488355328 : Nat) then
          some (Sum.inl (Prod.fst s_184 ++ [(47 : UInt8)] ++ List.getD l_176 (Int.toNat (Prod.snd s_184)) [], IntKind.wrap IntKind.i64 (Prod.snd s_184 + (1 : Int))))
        else none
      else none
    else none
  else
    some (Sum.inr (Prod.fst s_184))

noncomputable def cellarerref02_Joined (l_175 : List (List UInt8)) : Option (List UInt8) :=
  bif Decidable.decide ((↑(List.length l_175) : Int) = (0 : Int)) then
    some ([(47 : UInt8)])
  else
    (iter (cellarerref02_Joined_b0 (l_175)) ([], (0 : Int))).bind (fun t_180 =>
      some (t_180))

def cellarerref02_Clean_res (r : List UInt8 × Int) : AV := (fun (r_192 : List UInt8 × Int) => AV.tup [AV.str (Prod.fst r_192), AV.int IntKind.i64 (Prod.snd r_192)]) r

def cellarerref02_Clean_out (r : List UInt8 × Int) : List AO := (fun (r_192 : List UInt8 × Int) => []) r

noncomputable def cellarerref02_Clean_b0 (s_147 : List UInt8) (s_193 : Int) : Option ((Int) ⊕ (Unit ⊕ Unit)) :=
  bif Decidable.decide (s_193 < (↑(List.length s_147) : Int)) then
    if (0 : Int) ≤ s_193 ∧ s_193 < (↑(List.length s_147) : Int) then
      bif Decidable.decide ((↑(UInt8.toNat (List.getD s_147 (Int.toNat s_193) (0 : UInt8))) : Int) < (33 : Int)) then
        some (Sum.inr (Sum.inl ()))
      else
        if (0 : Int) ≤ s_193 ∧ s_193 < (↑(List.length s_147) : Int) then
          bif Decidable.decide ((126 : Int) < (↑(UInt8.toNat (List.getD s_147 (Int.toNat s_193) (0 : UInt8))) : Int)) then
            some (Sum.inr (Sum.inl ()))
          else
            some (Sum.inl (IntKind.wrap IntKind.i64 (s_193 + (1 : Int))))
        else none
    else none
  else
    some (Sum.inr (Sum.inr ()))

noncomputable def cellarerref02_Clean_b1 (o0_171 : List (List UInt8)) (s_194 : Int × List (List UInt8)) : Option ((Int × List (List UInt8)) ⊕ (List (List UInt8))) :=
  bif Decidable.decide (Prod.fst s_194 < (↑(List.length o0_171) : Int) - (↑(0 : Nat) : Int)) then
    if (0 : Int) ≤ Prod.fst s_194 ∧ Prod.fst s_194 + (↑(0 : Nat) : Int) < (↑(List.length o0_171) : Int) then
      if (0 : Nat) + Int.toNat (Prod.fst s_194) < List.length o0_171 then
        bif Decidable.decide (List.getD o0_171 ((0 : Nat) + Int.toNat (Prod.fst s_194)) [] = [(46 : UInt8), (46 : UInt8)]) then
          bif Decidable.decide ((0 : Int) < (↑(List.length (Prod.snd s_194)) : Int) - (↑(0 : Nat) : Int)) then
            if (0 : Int) ≤ (0 : Int) ∧ (0 : Int) ≤ IntKind.wrap IntKind.i64 ((↑(List.length (Prod.snd s_194)) : Int) - (↑(0 : Nat) : Int) - (1 : Int)) ∧ (↑(0 : Nat) : Int) + IntKind.wrap IntKind.i64 ((↑(List.length (Prod.snd s_194)) : Int) - (↑(0 : Nat) : Int) - (1 : Int)) ≤ (↑(List.length (Prod.snd s_194)) : Int) then
              some (Sum.inl (IntKind.wrap IntKind.i64 (Prod.fst s_194 + (1 : Int)), List.take ((0 : Nat) + Int.toNat (IntKind.wrap IntKind.i64 ((↑(List.length (Prod.snd s_194)) : Int) - (↑(0 : Nat) : Int) - (1 : Int)))) (Prod.snd s_194)))
            else none
          else
            some (Sum.inl (IntKind.wrap IntKind.i64 (Prod.fst s_194 + (1 : Int)), Prod.snd s_194))
        else
          if (0 : Int) ≤ Prod.fst s_194 ∧ Prod.fst s_194 + (↑(0 : Nat) : Int) < (↑(List.length o0_171) : Int) then
            if (0 : Nat) + Int.toNat (Prod.fst s_194) < List.length o0_171 then
              bif !Decidable.decide (List.getD o0_171 ((0 : Nat) + Int.toNat (Prod.fst s_194)) [] = [(46 : UInt8)]) then
                if (0 : Int) ≤ Prod.fst s_194 ∧ Prod.fst s_194 + (↑(0 : Nat) : Int) < (↑(List.length o0_171) : Int) then
                  if (0 : Nat) + Int.toNat (Prod.fst s_194) < List.length o0_171 then
                    if (List.length (Prod.snd s_194) + List.length ((fun (x : List (Ty.T Ty.str)) => x) [List.getD o0_171 ((0 : Nat) + Int.toNat (Prod.fst s_194)) []])) * (16 : Nat) ≤ (17592186044416 : Nat) then
                      some (Sum.inl (IntKind.wrap IntKind.i64 (Prod.fst s_194 + (1 : Int)), Prod.snd s_194 ++ [List.getD o0_171 ((0 : Nat) + Int.toNat (Prod.fst s_194)) []]))
                    else none
                  else none
                else none
              else
                some (Sum.inl (IntKind.wrap IntKind.i64 (Prod.fst s_194 + (1 : Int)), Prod.snd s_194))
            else none
          else none
      else none
    else none
  else
    some (Sum.inr (Prod.snd s_194))

noncomputable def cellarerref02_Clean (s_144 : List UInt8) : Option (List UInt8 × Int) :=
  Option.bind (α := Unit ⊕ Unit) (
    bif Decidable.decide ((↑(List.length s_144) : Int) = (0 : Int)) then
      some (Sum.inl ())
    else
      if (0 : Int) ≤ (0 : Int) ∧ (0 : Int) < (↑(List.length s_144) : Int) then
        bif !Decidable.decide ((↑(UInt8.toNat (List.getD s_144 (Int.toNat (0 : Int)) (0 : UInt8))) : Int) = (47 : Int)) then
          some (Sum.inl ())
        else
          some (Sum.inr ())
      else none) (Sum.elim (fun t_145 =>
    some ([], (1 : Int))) (fun t_146 =>
    (iter (cellarerref02_Clean_b0 (s_144)) ((0 : Int))).bind (Sum.elim (fun t_149 =>
      some ([], (1 : Int))) (fun t_150 =>
      (cellarerref02_Parts (s_144)).bind fun a_167 =>
        (iter (cellarerref02_Clean_b1 (a_167)) ((0 : Int), [])).bind (fun t_174 =>
          (cellarerref02_Joined (List.drop (0 : Nat) t_174)).bind fun a_186 =>
            bif Decidable.decide ((200 : Int) < (↑(List.length a_186) : Int)) then
              some ([], (8 : Int))
            else
              some (a_186, (0 : Int)))))))

def cellarerref02_Right_res (r : Bool) : AV := (fun (r_199 : Bool) => AV.bool r_199) r

def cellarerref02_Right_out (r : Bool) : List AO := (fun (r_199 : Bool) => []) r

noncomputable def cellarerref02_Right (s_143 : List UInt8) : Option (Bool) :=
  (cellarerref02_Clean (s_143)).bind fun a_197 =>
    bif Decidable.decide (Prod.snd a_197 = (0 : Int)) then
      some (Decidable.decide (Prod.fst a_197 = s_143))
    else
      some (Bool.false)

def cellarerref02_Name_res (r : Bool) : AV := (fun (r_217 : Bool) => AV.bool r_217) r

def cellarerref02_Name_out (r : Bool) : List AO := (fun (r_217 : Bool) => []) r

noncomputable def cellarerref02_Name_b0 (s_202 : List UInt8) (s_218 : Int) : Option ((Int) ⊕ (Unit ⊕ Unit)) :=
  bif Decidable.decide (s_218 < (↑(List.length s_202) : Int)) then
    if (0 : Int) ≤ s_218 ∧ s_218 < (↑(List.length s_202) : Int) then
      Option.bind (α := Bool) (
        bif Decidable.decide ((97 : Int) ≤ (↑(UInt8.toNat (List.getD s_202 (Int.toNat s_218) (0 : UInt8))) : Int)) then
          some (Decidable.decide ((↑(UInt8.toNat (List.getD s_202 (Int.toNat s_218) (0 : UInt8))) : Int) ≤ (122 : Int)))
        else
          some (Bool.false)) (fun t_205 =>
        Option.bind (α := Bool) (
          bif Decidable.decide ((48 : Int) ≤ (↑(UInt8.toNat (List.getD s_202 (Int.toNat s_218) (0 : UInt8))) : Int)) then
            some (Decidable.decide ((↑(UInt8.toNat (List.getD s_202 (Int.toNat s_218) (0 : UInt8))) : Int) ≤ (57 : Int)))
          else
            some (Bool.false)) (fun t_207 =>
          Option.bind (α := Bool) (
            bif Decidable.decide ((↑(UInt8.toNat (List.getD s_202 (Int.toNat s_218) (0 : UInt8))) : Int) = (43 : Int)) then
              some (Bool.true)
            else
              bif Decidable.decide ((↑(UInt8.toNat (List.getD s_202 (Int.toNat s_218) (0 : UInt8))) : Int) = (45 : Int)) then
                some (Bool.true)
              else
                some (Decidable.decide ((↑(UInt8.toNat (List.getD s_202 (Int.toNat s_218) (0 : UInt8))) : Int) = (46 : Int)))) (fun t_209 =>
            bif !t_205 then
              bif !t_207 then
                bif !t_209 then
                  some (Sum.inr (Sum.inl ()))
                else
                  bif t_209 then
                    bif Decidable.decide (s_218 = (0 : Int)) then
                      some (Sum.inr (Sum.inl ()))
                    else
                      some (Sum.inl (IntKind.wrap IntKind.i64 (s_218 + (1 : Int))))
                  else
                    some (Sum.inl (IntKind.wrap IntKind.i64 (s_218 + (1 : Int))))
              else
                bif t_209 then
                  bif Decidable.decide (s_218 = (0 : Int)) then
                    some (Sum.inr (Sum.inl ()))
                  else
                    some (Sum.inl (IntKind.wrap IntKind.i64 (s_218 + (1 : Int))))
                else
                  some (Sum.inl (IntKind.wrap IntKind.i64 (s_218 + (1 : Int))))
            else
              bif t_209 then
                bif Decidable.decide (s_218 = (0 : Int)) then
                  some (Sum.inr (Sum.inl ()))
                else
                  some (Sum.inl (IntKind.wrap IntKind.i64 (s_218 + (1 : Int))))
              else
                some (Sum.inl (IntKind.wrap IntKind.i64 (s_218 + (1 : Int)))))))
    else none
  else
    some (Sum.inr (Sum.inr ()))

noncomputable def cellarerref02_Name (s_201 : List UInt8) : Option (Bool) :=
  (iter (cellarerref02_Name_b0 (s_201)) ((0 : Int))).bind (Sum.elim (fun t_213 =>
    some (Bool.false)) (fun t_214 =>
    bif Decidable.decide ((1 : Int) ≤ (↑(List.length s_201) : Int)) then
      some (Decidable.decide ((↑(List.length s_201) : Int) ≤ (60 : Int)))
    else
      some (Bool.false)))

def cellarerref08_Rising_res (r : Bool) : AV := (fun (r_228 : Bool) => AV.bool r_228) r

def cellarerref08_Rising_out (r : Bool) : List AO := (fun (r_228 : Bool) => []) r

noncomputable def cellarerref08_Rising_b0 (l_222 : List (List UInt8)) (s_229 : Int) : Option ((Int) ⊕ (Unit ⊕ Unit)) :=
  bif Decidable.decide (s_229 < (↑(List.length l_222) : Int)) then
    if (0 : Int) ≤ IntKind.wrap IntKind.i64 (s_229 - (1 : Int)) ∧ IntKind.wrap IntKind.i64 (s_229 - (1 : Int)) < (↑(List.length l_222) : Int) then
      if (0 : Int) ≤ s_229 ∧ s_229 < (↑(List.length l_222) : Int) then
        bif !Go.Op.bytesLess (List.getD l_222 (Int.toNat (IntKind.wrap IntKind.i64 (s_229 - (1 : Int)))) []) (List.getD l_222 (Int.toNat s_229) []) then
          some (Sum.inr (Sum.inl ()))
        else
          some (Sum.inl (IntKind.wrap IntKind.i64 (s_229 + (1 : Int))))
      else none
    else none
  else
    some (Sum.inr (Sum.inr ()))

noncomputable def cellarerref08_Rising (l_221 : List (List UInt8)) : Option (Bool) :=
  (iter (cellarerref08_Rising_b0 (l_221)) ((1 : Int))).bind (Sum.elim (fun t_224 =>
    some (Bool.false)) (fun t_225 =>
    some (Decidable.decide ((↑(List.length l_221) : Int) ≤ (64 : Int)))))

def lists_Right_res (r : Bool) : AV := (fun (r_245 : Bool) => AV.bool r_245) r

def lists_Right_out (r : Bool) : List AO := (fun (r_245 : Bool) => []) r

noncomputable def lists_Right_b0 (t_234 : List (List UInt8)) (t_235 : Int) (o0_238 : List (List UInt8)) (s_246 : Int) : Option ((Int) ⊕ (Unit ⊕ Unit)) :=
  bif Decidable.decide (s_246 < t_235) then
    if (0 : Int) ≤ s_246 ∧ s_246 < (↑(List.length t_234) : Int) then
      (path_Right (List.getD t_234 (Int.toNat s_246) [])).bind fun a_239 =>
        bif !a_239 then
          some (Sum.inr (Sum.inl ()))
        else
          bif Decidable.decide ((0 : Int) < s_246) then
            if (0 : Int) ≤ IntKind.wrap IntKind.i64 (s_246 - (1 : Int)) ∧ IntKind.wrap IntKind.i64 (s_246 - (1 : Int)) < (↑(List.length o0_238) : Int) then
              bif !Go.Op.bytesLess (List.getD o0_238 (Int.toNat (IntKind.wrap IntKind.i64 (s_246 - (1 : Int)))) []) (List.getD t_234 (Int.toNat s_246) []) then
                some (Sum.inr (Sum.inl ()))
              else
                some (Sum.inl (IntKind.wrap IntKind.i64 (s_246 + (1 : Int))))
            else none
          else
            some (Sum.inl (IntKind.wrap IntKind.i64 (s_246 + (1 : Int))))
    else none
  else
    some (Sum.inr (Sum.inr ()))

noncomputable def lists_Right (x_232 : List UInt8) (x_233 : List (List UInt8)) : Option (Bool) :=
  (iter (lists_Right_b0 (x_233) ((↑(List.length x_233) : Int)) (x_233)) ((0 : Int))).bind (Sum.elim (fun t_240 =>
    some (Bool.false)) (fun t_241 =>
    (path_Name (x_232)).bind fun a_242 =>
      bif a_242 then
        some (Decidable.decide ((↑(List.length x_233) : Int) ≤ (64 : Int)))
      else
        some (Bool.false)))

def cellarerref13_Right_res (r : Bool) : AV := (fun (r_261 : Bool) => AV.bool r_261) r

def cellarerref13_Right_out (r : Bool) : List AO := (fun (r_261 : Bool) => []) r

noncomputable def cellarerref13_Right_b0 (o0_253 : List (List UInt8)) (s_262 : Int) : Option ((Int) ⊕ (Unit ⊕ Unit)) :=
  bif Decidable.decide (s_262 < (↑(List.length o0_253) : Int)) then
    if (0 : Int) ≤ s_262 ∧ s_262 < (↑(List.length o0_253) : Int) then
      (cellarerref02_Right (List.getD o0_253 (Int.toNat s_262) [])).bind fun a_254 =>
        bif !a_254 then
          some (Sum.inr (Sum.inl ()))
        else
          some (Sum.inl (IntKind.wrap IntKind.i64 (s_262 + (1 : Int))))
    else none
  else
    some (Sum.inr (Sum.inr ()))

noncomputable def cellarerref13_Right (x_249 : List UInt8) (x_250 : List (List UInt8)) : Option (Bool) :=
  (iter (cellarerref13_Right_b0 (x_250)) ((0 : Int))).bind (Sum.elim (fun t_255 =>
    some (Bool.false)) (fun t_256 =>
    (cellarerref02_Name (x_249)).bind fun a_257 =>
      bif a_257 then
        (cellarerref08_Rising (x_250)).bind fun a_258 =>
          some (a_258)
      else
        some (Bool.false)))

def lists_Check_res (r : Int) : AV := (fun (r_275 : Int) => AV.int IntKind.i64 r_275) r

def lists_Check_out (r : Int) : List AO := (fun (r_275 : Int) => []) r

noncomputable def lists_Check_b0 (l_266 : List (List UInt8 × List (List UInt8))) (t_267 : List (List UInt8 × List (List UInt8))) (t_268 : Int) (s_276 : Int) : Option ((Int) ⊕ (Unit ⊕ Unit)) :=
  bif Decidable.decide (s_276 < t_268) then
    if (0 : Int) ≤ s_276 ∧ s_276 < (↑(List.length t_267) : Int) then
      (lists_Right (Prod.fst (List.getD t_267 (Int.toNat s_276) ([], []))) (Prod.snd (List.getD t_267 (Int.toNat s_276) ([], [])))).bind fun a_270 =>
        bif !a_270 then
          some (Sum.inr (Sum.inl ()))
        else
          bif Decidable.decide ((0 : Int) < s_276) then
            if (0 : Int) ≤ IntKind.wrap IntKind.i64 (s_276 - (1 : Int)) ∧ IntKind.wrap IntKind.i64 (s_276 - (1 : Int)) < (↑(List.length l_266) : Int) then
              bif !Go.Op.bytesLess (Prod.fst (List.getD l_266 (Int.toNat (IntKind.wrap IntKind.i64 (s_276 - (1 : Int)))) ([], []))) (Prod.fst (List.getD t_267 (Int.toNat s_276) ([], []))) then
                some (Sum.inr (Sum.inl ()))
              else
                some (Sum.inl (IntKind.wrap IntKind.i64 (s_276 + (1 : Int))))
            else none
          else
            some (Sum.inl (IntKind.wrap IntKind.i64 (s_276 + (1 : Int))))
    else none
  else
    some (Sum.inr (Sum.inr ()))

noncomputable def lists_Check (l_265 : List (List UInt8 × List (List UInt8))) : Option (Int) :=
  bif Decidable.decide ((64 : Int) < (↑(List.length l_265) : Int)) then
    some ((22 : Int))
  else
    (iter (lists_Check_b0 (l_265) (l_265) ((↑(List.length l_265) : Int))) ((0 : Int))).bind (Sum.elim (fun t_271 =>
      some ((1 : Int))) (fun t_272 =>
      some ((0 : Int))))

def cellarerref13_Check_res (r : Int) : AV := (fun (r_287 : Int) => AV.int IntKind.i64 r_287) r

def cellarerref13_Check_out (r : Int) : List AO := (fun (r_287 : Int) => []) r

noncomputable def cellarerref13_Check_b0 (l_280 : List (List UInt8 × List (List UInt8))) (s_288 : Int) : Option ((Int) ⊕ (Unit ⊕ Unit)) :=
  bif Decidable.decide (s_288 < (↑(List.length l_280) : Int)) then
    if (0 : Int) ≤ s_288 ∧ s_288 < (↑(List.length l_280) : Int) then
      (cellarerref13_Right (Prod.fst (List.getD l_280 (Int.toNat s_288) ([], []))) (Prod.snd (List.getD l_280 (Int.toNat s_288) ([], [])))).bind fun a_282 =>
        bif !a_282 then
          some (Sum.inr (Sum.inl ()))
        else
          bif Decidable.decide ((0 : Int) < s_288) then
            if (0 : Int) ≤ IntKind.wrap IntKind.i64 (s_288 - (1 : Int)) ∧ IntKind.wrap IntKind.i64 (s_288 - (1 : Int)) < (↑(List.length l_280) : Int) then
              if (0 : Int) ≤ s_288 ∧ s_288 < (↑(List.length l_280) : Int) then
                bif !Go.Op.bytesLess (Prod.fst (List.getD l_280 (Int.toNat (IntKind.wrap IntKind.i64 (s_288 - (1 : Int)))) ([], []))) (Prod.fst (List.getD l_280 (Int.toNat s_288) ([], []))) then
                  some (Sum.inr (Sum.inl ()))
                else
                  some (Sum.inl (IntKind.wrap IntKind.i64 (s_288 + (1 : Int))))
              else none
            else none
          else
            some (Sum.inl (IntKind.wrap IntKind.i64 (s_288 + (1 : Int))))
    else none
  else
    some (Sum.inr (Sum.inr ()))

noncomputable def cellarerref13_Check (l_279 : List (List UInt8 × List (List UInt8))) : Option (Int) :=
  bif Decidable.decide ((64 : Int) < (↑(List.length l_279) : Int)) then
    some ((22 : Int))
  else
    (iter (cellarerref13_Check_b0 (l_279)) ((0 : Int))).bind (Sum.elim (fun t_283 =>
      some ((1 : Int))) (fun t_284 =>
      some ((0 : Int))))

def cellarerlaw13_Few_res (r : Bool) : AV := (fun (r_310 : Bool) => AV.bool r_310) r

def cellarerlaw13_Few_out (r : Bool) : List AO := (fun (r_310 : Bool) => []) r

noncomputable def cellarerlaw13_Few_b0 (l_297 : List (List UInt8 × List (List UInt8))) (i_299 : Int) (s_312 : Int × Int) : Option ((Int × Int) ⊕ (Unit ⊕ Int)) :=
  if (0 : Int) ≤ i_299 ∧ i_299 < (↑(List.length l_297) : Int) then
    bif Decidable.decide (Prod.snd s_312 < (↑(List.length (Prod.snd (List.getD l_297 (Int.toNat i_299) ([], [])))) : Int)) then
      if (0 : Int) ≤ i_299 ∧ i_299 < (↑(List.length l_297) : Int) then
        if (0 : Int) ≤ Prod.snd s_312 ∧ Prod.snd s_312 < (↑(List.length (Prod.snd (List.getD l_297 (Int.toNat i_299) ([], [])))) : Int) then
          bif Decidable.decide ((4000 : Int) < IntKind.wrap IntKind.i64 (Prod.fst s_312 + IntKind.wrap IntKind.i64 ((1 : Int) + if (4000 : Int) < (↑(List.length (List.getD (Prod.snd (List.getD l_297 (Int.toNat i_299) ([], []))) (Int.toNat (Prod.snd s_312)) [])) : Int) then (4000 : Int) else (↑(List.length (List.getD (Prod.snd (List.getD l_297 (Int.toNat i_299) ([], []))) (Int.toNat (Prod.snd s_312)) [])) : Int)))) then
            some (Sum.inr (Sum.inl ()))
          else
            some (Sum.inl (IntKind.wrap IntKind.i64 (Prod.fst s_312 + IntKind.wrap IntKind.i64 ((1 : Int) + if (4000 : Int) < (↑(List.length (List.getD (Prod.snd (List.getD l_297 (Int.toNat i_299) ([], []))) (Int.toNat (Prod.snd s_312)) [])) : Int) then (4000 : Int) else (↑(List.length (List.getD (Prod.snd (List.getD l_297 (Int.toNat i_299) ([], []))) (Int.toNat (Prod.snd s_312)) [])) : Int))), IntKind.wrap IntKind.i64 (Prod.snd s_312 + (1 : Int))))
        else none
      else none
    else
      some (Sum.inr (Sum.inr (Prod.fst s_312)))
  else none

noncomputable def cellarerlaw13_Few_b1 (l_292 : List (List UInt8 × List (List UInt8))) (s_311 : Int × Int) : Option ((Int × Int) ⊕ (Unit ⊕ Unit)) :=
  bif Decidable.decide (Prod.snd s_311 < (↑(List.length l_292) : Int)) then
    Option.bind (α := Unit ⊕ Unit) (
      if (0 : Int) ≤ Prod.snd s_311 ∧ Prod.snd s_311 < (↑(List.length l_292) : Int) then
        bif Decidable.decide ((300 : Int) < (↑(List.length (Prod.fst (List.getD l_292 (Int.toNat (Prod.snd s_311)) ([], [])))) : Int)) then
          some (Sum.inl ())
        else
          if (0 : Int) ≤ Prod.snd s_311 ∧ Prod.snd s_311 < (↑(List.length l_292) : Int) then
            bif Decidable.decide ((70 : Int) < (↑(List.length (Prod.snd (List.getD l_292 (Int.toNat (Prod.snd s_311)) ([], [])))) : Int)) then
              some (Sum.inl ())
            else
              some (Sum.inr ())
          else none
      else none) (Sum.elim (fun t_295 =>
      some (Sum.inr (Sum.inl ()))) (fun t_296 =>
      (iter (cellarerlaw13_Few_b0 (l_292) (Prod.snd s_311)) (Prod.fst s_311, (0 : Int))).bind (Sum.elim (fun t_301 =>
        some (Sum.inr (Sum.inl ()))) (fun t_303 =>
        some (Sum.inl (t_303, IntKind.wrap IntKind.i64 (Prod.snd s_311 + (1 : Int))))))))
  else
    some (Sum.inr (Sum.inr ()))

noncomputable def cellarerlaw13_Few (l_291 : List (List UInt8 × List (List UInt8))) : Option (Bool) :=
  bif Decidable.decide ((70 : Int) < (↑(List.length l_291) : Int)) then
    some (Bool.false)
  else
    (iter (cellarerlaw13_Few_b1 (l_291)) ((0 : Int), (0 : Int))).bind (Sum.elim (fun t_306 =>
      some (Bool.false)) (fun t_307 =>
      some (Bool.true)))

def lists_Print_res (r : List UInt8 × Int) : AV := (fun (r_331 : List UInt8 × Int) => AV.tup [AV.str (Prod.fst r_331), AV.int IntKind.i64 (Prod.snd r_331)]) r

def lists_Print_out (r : List UInt8 × Int) : List AO := (fun (r_331 : List UInt8 × Int) => []) r

noncomputable def lists_Print_b0 (t_319 : List (List UInt8)) (t_320 : Int) (s_332 : Int × List UInt8) : Option ((Int × List UInt8) ⊕ (List UInt8)) :=
  bif Decidable.decide (Prod.fst s_332 < t_320) then
    if (0 : Int) ≤ Prod.fst s_332 ∧ Prod.fst s_332 < (↑(List.length t_319) : Int) then
      (x__strings_Builder__WriteString (List.getD t_319 (Int.toNat (Prod.fst s_332)) []) (Prod.snd s_332)).bind fun a_323 =>
        (x__strings_Builder__WriteByte ((10 : Int)) (Prod.snd a_323)).bind fun a_324 =>
          some (Sum.inl (IntKind.wrap IntKind.i64 (Prod.fst s_332 + (1 : Int)), a_324))
    else none
  else
    some (Sum.inr (Prod.snd s_332))

noncomputable def lists_Print (x_316 : List UInt8) (x_317 : List (List UInt8)) : Option (List UInt8 × Int) :=
  (lists_Right (x_316) (x_317)).bind fun a_318 =>
    bif !a_318 then
      some ([], (1 : Int))
    else
      (iter (lists_Print_b0 (x_317) ((↑(List.length x_317) : Int))) ((0 : Int), [])).bind (fun t_326 =>
        (x__strings_Builder__String (t_326)).bind fun a_327 =>
          some (a_327, (0 : Int)))

def cellarerref13_Print_res (r : List UInt8 × Int) : AV := (fun (r_347 : List UInt8 × Int) => AV.tup [AV.str (Prod.fst r_347), AV.int IntKind.i64 (Prod.snd r_347)]) r

def cellarerref13_Print_out (r : List UInt8 × Int) : List AO := (fun (r_347 : List UInt8 × Int) => []) r

noncomputable def cellarerref13_Print_b0 (o0_341 : List (List UInt8)) (s_348 : List UInt8 × Int) : Option ((List UInt8 × Int) ⊕ (List UInt8)) :=
  bif Decidable.decide (Prod.snd s_348 < (↑(List.length o0_341) : Int)) then
    if (0 : Int) ≤ Prod.snd s_348 ∧ Prod.snd s_348 < (↑(List.length o0_341) : Int) then
      if List.length (Prod.fst s_348) + List.length (List.getD o0_341 (Int.toNat (Prod.snd s_348)) []) ≤ (140737488355328 : Nat) then
        if List.length (Prod.fst s_348 ++ List.getD o0_341 (Int.toNat (Prod.snd s_348)) []) + List.length ((fun (x : List UInt8) => x) [(10 : UInt8)]) ≤ (140737488355328 : Nat) then
          some (Sum.inl (Prod.fst s_348 ++ List.getD o0_341 (Int.toNat (Prod.snd s_348)) [] ++ [(10 : UInt8)], IntKind.wrap IntKind.i64 (Prod.snd s_348 + (1 : Int))))
        else none
      else none
    else none
  else
    some (Sum.inr (Prod.fst s_348))

noncomputable def cellarerref13_Print (x_335 : List UInt8) (x_336 : List (List UInt8)) : Option (List UInt8 × Int) :=
  (cellarerref13_Right (x_335) (x_336)).bind fun a_337 =>
    bif !a_337 then
      some ([], (1 : Int))
    else
      (iter (cellarerref13_Print_b0 (x_336)) ([], (0 : Int))).bind (fun t_343 =>
        some (t_343, (0 : Int)))

def stringslite_HasSuffix_res (r : Bool) : AV := (fun (r_357 : Bool) => AV.bool r_357) r

def stringslite_HasSuffix_out (r : Bool) : List AO := (fun (r_357 : Bool) => []) r

noncomputable def stringslite_HasSuffix (s_354 : List UInt8) (suffix_355 : List UInt8) : Option (Bool) :=
  bif Decidable.decide ((↑(List.length suffix_355) : Int) ≤ (↑(List.length s_354) : Int)) then
    if (0 : Int) ≤ IntKind.wrap IntKind.i64 ((↑(List.length s_354) : Int) - (↑(List.length suffix_355) : Int)) ∧ IntKind.wrap IntKind.i64 ((↑(List.length s_354) : Int) - (↑(List.length suffix_355) : Int)) ≤ (↑(List.length s_354) : Int) ∧ (↑(List.length s_354) : Int) ≤ (↑(List.length s_354) : Int) then
      some (Decidable.decide (List.drop (Int.toNat (IntKind.wrap IntKind.i64 ((↑(List.length s_354) : Int) - (↑(List.length suffix_355) : Int)))) (List.take (Int.toNat (↑(List.length s_354) : Int)) s_354) = suffix_355))
    else none
  else
    some (Bool.false)

def strings_HasSuffix_res (r : Bool) : AV := (fun (r_360 : Bool) => AV.bool r_360) r

def strings_HasSuffix_out (r : Bool) : List AO := (fun (r_360 : Bool) => []) r

noncomputable def strings_HasSuffix (s_352 : List UInt8) (suffix_353 : List UInt8) : Option (Bool) :=
  (stringslite_HasSuffix (s_352) (suffix_353)).bind fun a_358 =>
    some (a_358)

def stanza_Lines_res (r : Int × List (List UInt8)) : AV := (fun (r_365 : Int × List (List UInt8)) => AV.tup [AV.view (0 : Nat) (0 : Nat) Option.none, AV.int IntKind.i64 (Prod.fst r_365)]) r

def stanza_Lines_out (r : Int × List (List UInt8)) : List AO := (fun (r_365 : Int × List (List UInt8)) => [AO.row Ty.str (Prod.snd r_365)]) r

noncomputable def stanza_Lines (s_351 : List UInt8) : Option (Int × List (List UInt8)) :=
  bif Decidable.decide (s_351 = []) then
    some ((0 : Int), [])
  else
    (strings_HasSuffix (s_351) ([(10 : UInt8)])).bind fun a_361 =>
      bif !a_361 then
        some ((2 : Int), [])
      else
        if (0 : Int) ≤ (0 : Int) ∧ (0 : Int) ≤ IntKind.wrap IntKind.i64 ((↑(List.length s_351) : Int) - (1 : Int)) ∧ IntKind.wrap IntKind.i64 ((↑(List.length s_351) : Int) - (1 : Int)) ≤ (↑(List.length s_351) : Int) then
          (strings_Split (List.drop (Int.toNat (0 : Int)) (List.take (Int.toNat (IntKind.wrap IntKind.i64 ((↑(List.length s_351) : Int) - (1 : Int)))) s_351)) ([(10 : UInt8)])).bind fun a_362 =>
            some ((0 : Int), a_362)
        else none

def cellarerref06_Split_res (r : List (List UInt8)) : AV := (fun (r_384 : List (List UInt8)) => AV.view (0 : Nat) (0 : Nat) Option.none) r

def cellarerref06_Split_out (r : List (List UInt8)) : List AO := (fun (r_384 : List (List UInt8)) => [AO.row Ty.str r_384]) r

noncomputable def cellarerref06_Split_b0 (s_374 : List UInt8) (c_375 : Int) (s_385 : List UInt8 × Int × List (List UInt8)) : Option ((List UInt8 × Int × List (List UInt8)) ⊕ (List UInt8 × List (List UInt8))) :=
  bif Decidable.decide (Prod.fst (Prod.snd s_385) < (↑(List.length s_374) : Int)) then
    if (0 : Int) ≤ Prod.fst (Prod.snd s_385) ∧ Prod.fst (Prod.snd s_385) < (↑(List.length s_374) : Int) then
      bif Decidable.decide ((↑(UInt8.toNat (List.getD s_374 (Int.toNat (Prod.fst (Prod.snd s_385))) (0 : UInt8))) : Int) = c_375) then
        if (List.length (Prod.snd (Prod.snd s_385)) + List.length ((fun (x : List (Ty.T Ty.str)) => x) [Prod.fst s_385])) * (16 : Nat) ≤ (17592186044416 : Nat) then
          some (Sum.inl ([], IntKind.wrap IntKind.i64 (Prod.fst (Prod.snd s_385) + (1 : Int)), Prod.snd (Prod.snd s_385) ++ [Prod.fst s_385]))
        else none
      else
        if (0 : Int) ≤ Prod.fst (Prod.snd s_385) ∧ Prod.fst (Prod.snd s_385) ≤ IntKind.wrap IntKind.i64 (Prod.fst (Prod.snd s_385) + (1 : Int)) ∧ IntKind.wrap IntKind.i64 (Prod.fst (Prod.snd s_385) + (1 : Int)) ≤ (↑(List.length s_374) : Int) then
          if List.length (Prod.fst s_385) + List.length (List.drop (Int.toNat (Prod.fst (Prod.snd s_385))) (List.take (Int.toNat (IntKind.wrap IntKind.i64 (Prod.fst (Prod.snd s_385) + (1 : Int)))) s_374)) ≤ (140737488355328 : Nat) then
            some (Sum.inl (Prod.fst s_385 ++ List.drop (Int.toNat (Prod.fst (Prod.snd s_385))) (List.take (Int.toNat (IntKind.wrap IntKind.i64 (Prod.fst (Prod.snd s_385) + (1 : Int)))) s_374), IntKind.wrap IntKind.i64 (Prod.fst (Prod.snd s_385) + (1 : Int)), Prod.snd (Prod.snd s_385)))
          else none
        else none
    else none
  else
    some (Sum.inr (Prod.fst s_385, Prod.snd (Prod.snd s_385)))

noncomputable def cellarerref06_Split (s_368 : List UInt8) (c_369 : Int) : Option (List (List UInt8)) :=
  (iter (cellarerref06_Split_b0 (s_368) (c_369)) ([], (0 : Int), [])).bind (fun t_381 =>
    if (List.length (Prod.snd t_381) + List.length ((fun (x : List (Ty.T Ty.str)) => x) [Prod.fst t_381])) * (16 : Nat) ≤ (17592186044416 : Nat) then
      some (Prod.snd t_381 ++ [Prod.fst t_381])
    else none)

def cellarerref06_Lines_res (r : Bool × List (List UInt8)) : AV := (fun (r_390 : Bool × List (List UInt8)) => AV.tup [AV.view (0 : Nat) (0 : Nat) Option.none, AV.bool (Prod.fst r_390)]) r

def cellarerref06_Lines_out (r : Bool × List (List UInt8)) : List AO := (fun (r_390 : Bool × List (List UInt8)) => [AO.row Ty.str (Prod.snd r_390)]) r

noncomputable def cellarerref06_Lines (s_367 : List UInt8) : Option (Bool × List (List UInt8)) :=
  (cellarerref06_Split (s_367) ((10 : Int))).bind fun a_387 =>
    if (0 : Int) ≤ (0 : Int) ∧ (0 : Int) ≤ IntKind.wrap IntKind.i64 ((↑(List.length a_387) : Int) - (↑(0 : Nat) : Int) - (1 : Int)) ∧ (↑(0 : Nat) : Int) + IntKind.wrap IntKind.i64 ((↑(List.length a_387) : Int) - (↑(0 : Nat) : Int) - (1 : Int)) ≤ (↑(List.length a_387) : Int) then
      if (0 : Int) ≤ IntKind.wrap IntKind.i64 ((↑(List.length a_387) : Int) - (↑(0 : Nat) : Int) - (1 : Int)) ∧ IntKind.wrap IntKind.i64 ((↑(List.length a_387) : Int) - (↑(0 : Nat) : Int) - (1 : Int)) + (↑(0 : Nat) : Int) < (↑(List.length a_387) : Int) then
        if (0 : Nat) + Int.toNat (IntKind.wrap IntKind.i64 ((↑(List.length a_387) : Int) - (↑(0 : Nat) : Int) - (1 : Int))) < List.length a_387 then
          some (Decidable.decide (List.getD a_387 ((0 : Nat) + Int.toNat (IntKind.wrap IntKind.i64 ((↑(List.length a_387) : Int) - (↑(0 : Nat) : Int) - (1 : Int)))) [] = []), List.take ((0 : Nat) + Int.toNat (IntKind.wrap IntKind.i64 ((↑(List.length a_387) : Int) - (↑(0 : Nat) : Int) - (1 : Int)))) a_387)
        else none
      else none
    else none

def lists_Parse_res (r : List UInt8 × List (List UInt8) × Int) : AV := (fun (r_400 : List UInt8 × List (List UInt8) × Int) => AV.tup [AV.agg [AV.str (Prod.fst r_400), AV.list Ty.str (Prod.fst (Prod.snd r_400)) Bool.false], AV.int IntKind.i64 (Prod.snd (Prod.snd r_400))]) r

def lists_Parse_out (r : List UInt8 × List (List UInt8) × Int) : List AO := (fun (r_400 : List UInt8 × List (List UInt8) × Int) => []) r

noncomputable def lists_Parse (name_393 : List UInt8) (s_394 : List UInt8) : Option (List UInt8 × List (List UInt8) × Int) :=
  (stanza_Lines (s_394)).bind fun a_395 =>
    bif !Decidable.decide (Prod.fst a_395 = (0 : Int)) then
      some ([], [], (2 : Int))
    else
      (lists_Right (name_393) (List.drop (0 : Nat) (Prod.snd a_395))).bind fun a_396 =>
        bif !a_396 then
          some ([], [], (2 : Int))
        else
          some (name_393, List.drop (0 : Nat) (Prod.snd a_395), (0 : Int))

def cellarerref13_Parse_res (r : List UInt8 × List (List UInt8) × Bool) : AV := (fun (r_410 : List UInt8 × List (List UInt8) × Bool) => AV.tup [AV.agg [AV.str (Prod.fst r_410), AV.list Ty.str (Prod.fst (Prod.snd r_410)) Bool.false], AV.bool (Prod.snd (Prod.snd r_410))]) r

def cellarerref13_Parse_out (r : List UInt8 × List (List UInt8) × Bool) : List AO := (fun (r_410 : List UInt8 × List (List UInt8) × Bool) => []) r

noncomputable def cellarerref13_Parse (name_403 : List UInt8) (s_404 : List UInt8) : Option (List UInt8 × List (List UInt8) × Bool) :=
  (cellarerref06_Lines (s_404)).bind fun a_405 =>
    (cellarerref13_Print (name_403) (List.drop (0 : Nat) (Prod.snd a_405))).bind fun a_406 =>
      bif !Prod.fst a_405 then
        some ([], [], Bool.false)
      else
        bif !Decidable.decide (Prod.snd a_406 = (0 : Int)) then
          some ([], [], Bool.false)
        else
          bif !Decidable.decide (Prod.fst a_406 = s_404) then
            some ([], [], Bool.false)
          else
            some (name_403, List.drop (0 : Nat) (Prod.snd a_405), Bool.true)

def cellarerref02_Same_res (r : Bool) : AV := (fun (r_427 : Bool) => AV.bool r_427) r

def cellarerref02_Same_out (r : Bool) : List AO := (fun (r_427 : Bool) => []) r

noncomputable def cellarerref02_Same_b0 (a_420 : List (List UInt8)) (b_421 : List (List UInt8)) (s_428 : Int) : Option ((Int) ⊕ (Unit ⊕ Unit)) :=
  bif Decidable.decide (s_428 < (↑(List.length a_420) : Int)) then
    if (0 : Int) ≤ s_428 ∧ s_428 < (↑(List.length a_420) : Int) then
      if (0 : Int) ≤ s_428 ∧ s_428 < (↑(List.length b_421) : Int) then
        bif !Decidable.decide (List.getD a_420 (Int.toNat s_428) [] = List.getD b_421 (Int.toNat s_428) []) then
          some (Sum.inr (Sum.inl ()))
        else
          some (Sum.inl (IntKind.wrap IntKind.i64 (s_428 + (1 : Int))))
      else none
    else none
  else
    some (Sum.inr (Sum.inr ()))

noncomputable def cellarerref02_Same (a_418 : List (List UInt8)) (b_419 : List (List UInt8)) : Option (Bool) :=
  bif !Decidable.decide ((↑(List.length a_418) : Int) = (↑(List.length b_419) : Int)) then
    some (Bool.false)
  else
    (iter (cellarerref02_Same_b0 (a_418) (b_419)) ((0 : Int))).bind (Sum.elim (fun t_423 =>
      some (Bool.false)) (fun t_424 =>
      some (Bool.true)))

def cellarerref13_Same_res (r : Bool) : AV := (fun (r_435 : Bool) => AV.bool r_435) r

def cellarerref13_Same_out (r : Bool) : List AO := (fun (r_435 : Bool) => []) r

noncomputable def cellarerref13_Same_b0 (a_415 : List (List UInt8 × List (List UInt8))) (b_416 : List (List UInt8 × List (List UInt8))) (s_436 : Int) : Option ((Int) ⊕ (Unit ⊕ Unit)) :=
  bif Decidable.decide (s_436 < (↑(List.length a_415) : Int)) then
    if (0 : Int) ≤ s_436 ∧ s_436 < (↑(List.length a_415) : Int) then
      if (0 : Int) ≤ s_436 ∧ s_436 < (↑(List.length b_416) : Int) then
        bif !Decidable.decide (Prod.fst (List.getD a_415 (Int.toNat s_436) ([], [])) = Prod.fst (List.getD b_416 (Int.toNat s_436) ([], []))) then
          some (Sum.inr (Sum.inl ()))
        else
          if (0 : Int) ≤ s_436 ∧ s_436 < (↑(List.length a_415) : Int) then
            if (0 : Int) ≤ s_436 ∧ s_436 < (↑(List.length b_416) : Int) then
              (cellarerref02_Same (Prod.snd (List.getD a_415 (Int.toNat s_436) ([], []))) (Prod.snd (List.getD b_416 (Int.toNat s_436) ([], [])))).bind fun a_430 =>
                bif !a_430 then
                  some (Sum.inr (Sum.inl ()))
                else
                  some (Sum.inl (IntKind.wrap IntKind.i64 (s_436 + (1 : Int))))
            else none
          else none
      else none
    else none
  else
    some (Sum.inr (Sum.inr ()))

noncomputable def cellarerref13_Same (a_413 : List (List UInt8 × List (List UInt8))) (b_414 : List (List UInt8 × List (List UInt8))) : Option (Bool) :=
  bif !Decidable.decide ((↑(List.length a_413) : Int) = (↑(List.length b_414) : Int)) then
    some (Bool.false)
  else
    (iter (cellarerref13_Same_b0 (a_413) (b_414)) ((0 : Int))).bind (Sum.elim (fun t_431 =>
      some (Bool.false)) (fun t_432 =>
      some (Bool.true)))

def cellarerref02_Has_res (r : Bool) : AV := (fun (r_451 : Bool) => AV.bool r_451) r

def cellarerref02_Has_out (r : Bool) : List AO := (fun (r_451 : Bool) => []) r

noncomputable def cellarerref02_Has_b0 (l_444 : List (List UInt8)) (s_445 : List UInt8) (s_452 : Int) : Option ((Int) ⊕ (Unit ⊕ Unit)) :=
  bif Decidable.decide (s_452 < (↑(List.length l_444) : Int)) then
    if (0 : Int) ≤ s_452 ∧ s_452 < (↑(List.length l_444) : Int) then
      bif Decidable.decide (List.getD l_444 (Int.toNat s_452) [] = s_445) then
        some (Sum.inr (Sum.inl ()))
      else
        some (Sum.inl (IntKind.wrap IntKind.i64 (s_452 + (1 : Int))))
    else none
  else
    some (Sum.inr (Sum.inr ()))

noncomputable def cellarerref02_Has (l_442 : List (List UInt8)) (s_443 : List UInt8) : Option (Bool) :=
  (iter (cellarerref02_Has_b0 (l_442) (s_443)) ((0 : Int))).bind (Sum.elim (fun t_447 =>
    some (Bool.true)) (fun t_448 =>
    some (Bool.false)))

def lists_Find_1_res (r : Bool × List UInt8) : AV := (fun (r_469 : Bool × List UInt8) => AV.bool (Prod.fst r_469)) r

def lists_Find_1_out (r : Bool × List UInt8) : List AO := (fun (r_469 : Bool × List UInt8) => [AO.box [AV.str (Prod.snd r_469)]]) r

noncomputable def lists_Find_1 (x_464 : List UInt8) (x_465 : List (List UInt8)) (o0_466 : List UInt8) : Option (Bool × List UInt8) :=
  some (Decidable.decide (x_464 = o0_466), o0_466)

def api_List__res (r : Int × List UInt8) : AV := (fun (r_479 : Int × List UInt8) => AV.int IntKind.i64 (Prod.fst r_479)) r

def api_List__out (r : Int × List UInt8) : List AO := (fun (r_479 : Int × List UInt8) => [AO.box [AV.str (Prod.snd r_479)]]) r

noncomputable def api_List__b0 (s_460 : List (List UInt8 × List (List UInt8))) (t_461 : Int) (s_480 : Int × List UInt8) : Option ((Int × List UInt8) ⊕ (Int × List UInt8 ⊕ List UInt8)) :=
  bif Decidable.decide (Prod.fst s_480 < t_461) then
    if (0 : Int) ≤ Prod.fst s_480 ∧ Prod.fst s_480 < (↑(List.length s_460) : Int) then
      (lists_Find_1 (Prod.fst (List.getD s_460 (Int.toNat (Prod.fst s_480)) ([], []))) (Prod.snd (List.getD s_460 (Int.toNat (Prod.fst s_480)) ([], []))) (Prod.snd s_480)).bind fun a_470 =>
        bif Prod.fst a_470 then
          some (Sum.inr (Sum.inl (Prod.fst s_480, Prod.snd a_470)))
        else
          some (Sum.inl (IntKind.wrap IntKind.i64 (Prod.fst s_480 + (1 : Int)), Prod.snd a_470))
    else none
  else
    some (Sum.inr (Sum.inr (Prod.snd s_480)))

noncomputable def api_List_ (s_458 : List (List UInt8 × List (List UInt8))) (o0_459 : List UInt8) : Option (Int × List UInt8) :=
  (iter (api_List__b0 (s_458) ((↑(List.length s_458) : Int))) ((0 : Int), o0_459)).bind (Sum.elim (fun t_473 =>
    some (Prod.fst t_473, Prod.snd t_473)) (fun t_475 =>
    some ((-1 : Int), t_475)))

def lists_Find_res (r : Int) : AV := (fun (r_484 : Int) => AV.int IntKind.i64 r_484) r

def lists_Find_out (r : Int) : List AO := (fun (r_484 : Int) => []) r

noncomputable def lists_Find (l_456 : List (List UInt8 × List (List UInt8))) (name_457 : List UInt8) : Option (Int) :=
  (api_List_ (l_456) (name_457)).bind fun a_482 =>
    some (Prod.fst a_482)

def cellarerref13_Find_res (r : Int) : AV := (fun (r_497 : Int) => AV.int IntKind.i64 r_497) r

def cellarerref13_Find_out (r : Int) : List AO := (fun (r_497 : Int) => []) r

noncomputable def cellarerref13_Find_b0 (l_489 : List (List UInt8 × List (List UInt8))) (name_490 : List UInt8) (s_498 : Int) : Option ((Int) ⊕ (Int ⊕ Unit)) :=
  bif Decidable.decide (s_498 < (↑(List.length l_489) : Int)) then
    if (0 : Int) ≤ s_498 ∧ s_498 < (↑(List.length l_489) : Int) then
      bif Decidable.decide (Prod.fst (List.getD l_489 (Int.toNat s_498) ([], [])) = name_490) then
        some (Sum.inr (Sum.inl (s_498)))
      else
        some (Sum.inl (IntKind.wrap IntKind.i64 (s_498 + (1 : Int))))
    else none
  else
    some (Sum.inr (Sum.inr ()))

noncomputable def cellarerref13_Find (l_487 : List (List UInt8 × List (List UInt8))) (name_488 : List UInt8) : Option (Int) :=
  (iter (cellarerref13_Find_b0 (l_487) (name_488)) ((0 : Int))).bind (Sum.elim (fun t_493 =>
    some (t_493)) (fun t_494 =>
    some ((-1 : Int))))

def cellarerref13_Owners_res (r : List (List UInt8)) : AV := (fun (r_519 : List (List UInt8)) => AV.view (0 : Nat) (0 : Nat) Option.none) r

def cellarerref13_Owners_out (r : List (List UInt8)) : List AO := (fun (r_519 : List (List UInt8)) => [AO.row Ty.str r_519]) r

noncomputable def cellarerref13_Owners_b0 (l_510 : List (List UInt8 × List (List UInt8))) (p_511 : List UInt8) (s_520 : Int × List (List UInt8)) : Option ((Int × List (List UInt8)) ⊕ (List (List UInt8))) :=
  bif Decidable.decide (Prod.fst s_520 < (↑(List.length l_510) : Int)) then
    if (0 : Int) ≤ Prod.fst s_520 ∧ Prod.fst s_520 < (↑(List.length l_510) : Int) then
      (cellarerref02_Has (Prod.snd (List.getD l_510 (Int.toNat (Prod.fst s_520)) ([], []))) (p_511)).bind fun a_514 =>
        bif a_514 then
          if (0 : Int) ≤ Prod.fst s_520 ∧ Prod.fst s_520 < (↑(List.length l_510) : Int) then
            if (List.length (Prod.snd s_520) + List.length ((fun (x : List (Ty.T Ty.str)) => x) [Prod.fst (List.getD l_510 (Int.toNat (Prod.fst s_520)) ([], []))])) * (16 : Nat) ≤ (17592186044416 : Nat) then
              some (Sum.inl (IntKind.wrap IntKind.i64 (Prod.fst s_520 + (1 : Int)), Prod.snd s_520 ++ [Prod.fst (List.getD l_510 (Int.toNat (Prod.fst s_520)) ([], []))]))
            else none
          else none
        else
          some (Sum.inl (IntKind.wrap IntKind.i64 (Prod.fst s_520 + (1 : Int)), Prod.snd s_520))
    else none
  else
    some (Sum.inr (Prod.snd s_520))

noncomputable def cellarerref13_Owners (l_504 : List (List UInt8 × List (List UInt8))) (p_505 : List UInt8) : Option (List (List UInt8)) :=
  (iter (cellarerref13_Owners_b0 (l_504) (p_505)) ((0 : Int), [])).bind (fun t_516 =>
    some (t_516))

def api_List__40_res (r : List (List UInt8 × List (List UInt8))) : AV := (fun (r_531 : List (List UInt8 × List (List UInt8))) => AV.view (0 : Nat) (0 : Nat) Option.none) r

def api_List__40_out (r : List (List UInt8 × List (List UInt8))) : List AO := (fun (r_531 : List (List UInt8 × List (List UInt8))) => [AO.row (Ty.prod Ty.str (Ty.list Ty.str)) r_531]) r

noncomputable def api_List__40 (s_529 : List (List UInt8 × List (List UInt8))) : Option (List (List UInt8 × List (List UInt8))) :=
  mayb (List.isEmpty s_529) (
    some ([])) (
    if ((0 : Nat) + List.length s_529) * (40 : Nat) ≤ (17592186044416 : Nat) ∧ ((0 : Nat) < List.length s_529 ∨ (0 : Nat) = (0 : Nat)) then
      some (s_529)
    else none)

def slices_Clone___string_string__res (r : List (List UInt8)) : AV := (fun (r_535 : List (List UInt8)) => AV.view (0 : Nat) (0 : Nat) Option.none) r

def slices_Clone___string_string__out (r : List (List UInt8)) : List AO := (fun (r_535 : List (List UInt8)) => [AO.row Ty.str r_535]) r

noncomputable def slices_Clone___string_string_ (s_533 : List (List UInt8)) : Option (List (List UInt8)) :=
  mayb (List.isEmpty s_533) (
    some ([])) (
    if ((0 : Nat) + List.length s_533) * (16 : Nat) ≤ (17592186044416 : Nat) ∧ ((0 : Nat) < List.length s_533 ∨ (0 : Nat) = (0 : Nat)) then
      some (s_533)
    else none)

def slices_Index___string_string__res (r : Int) : AV := (fun (r_560 : Int) => AV.int IntKind.i64 r_560) r

def slices_Index___string_string__out (r : Int) : List AO := (fun (r_560 : Int) => []) r

noncomputable def slices_Index___string_string__b0 (s_551 : List (List UInt8)) (v_552 : List UInt8) (t_553 : Int) (s_561 : Int) : Option ((Int) ⊕ (Int ⊕ Unit)) :=
  bif Decidable.decide (s_561 < t_553) then
    if (0 : Int) ≤ s_561 ∧ s_561 < (↑(List.length s_551) : Int) then
      bif Decidable.decide (v_552 = List.getD s_551 (Int.toNat s_561) []) then
        some (Sum.inr (Sum.inl (s_561)))
      else
        some (Sum.inl (IntKind.wrap IntKind.i64 (s_561 + (1 : Int))))
    else none
  else
    some (Sum.inr (Sum.inr ()))

noncomputable def slices_Index___string_string_ (s_549 : List (List UInt8)) (v_550 : List UInt8) : Option (Int) :=
  (iter (slices_Index___string_string__b0 (s_549) (v_550) ((↑(List.length s_549) : Int))) ((0 : Int))).bind (Sum.elim (fun t_556 =>
    some (t_556)) (fun t_557 =>
    some ((-1 : Int))))

def slices_Contains___string_string__res (r : Bool) : AV := (fun (r_565 : Bool) => AV.bool r_565) r

def slices_Contains___string_string__out (r : Bool) : List AO := (fun (r_565 : Bool) => []) r

noncomputable def slices_Contains___string_string_ (s_547 : List (List UInt8)) (v_548 : List UInt8) : Option (Bool) :=
  (slices_Index___string_string_ (s_547) (v_548)).bind fun a_563 =>
    some (Decidable.decide ((0 : Int) ≤ a_563))

def lists_Lose_1_res (r : Bool × List (List UInt8)) : AV := (fun (r_569 : Bool × List (List UInt8)) => AV.bool (Prod.fst r_569)) r

def lists_Lose_1_out (r : Bool × List (List UInt8)) : List AO := (fun (r_569 : Bool × List (List UInt8)) => [AO.box [AV.list Ty.str (Prod.snd r_569) Bool.false]]) r

noncomputable def lists_Lose_1 (p_545 : List UInt8) (o0_546 : List (List UInt8)) : Option (Bool × List (List UInt8)) :=
  (slices_Contains___string_string_ (o0_546) (p_545)).bind fun a_566 =>
    some (a_566, o0_546)

def slices_IndexFunc___string_string__res (r : Int × List (List UInt8)) : AV := (fun (r_579 : Int × List (List UInt8)) => AV.int IntKind.i64 (Prod.fst r_579)) r

def slices_IndexFunc___string_string__out (r : Int × List (List UInt8)) : List AO := (fun (r_579 : Int × List (List UInt8)) => [AO.box [AV.list Ty.str (Prod.snd r_579) Bool.false]]) r

noncomputable def slices_IndexFunc___string_string__b0 (s_541 : List (List UInt8)) (t_542 : Int) (s_580 : Int × List (List UInt8)) : Option ((Int × List (List UInt8)) ⊕ (Int × List (List UInt8) ⊕ List (List UInt8))) :=
  bif Decidable.decide (Prod.fst s_580 < t_542) then
    if (0 : Int) ≤ Prod.fst s_580 ∧ Prod.fst s_580 < (↑(List.length s_541) : Int) then
      (lists_Lose_1 (List.getD s_541 (Int.toNat (Prod.fst s_580)) []) (Prod.snd s_580)).bind fun a_570 =>
        bif Prod.fst a_570 then
          some (Sum.inr (Sum.inl (Prod.fst s_580, Prod.snd a_570)))
        else
          some (Sum.inl (IntKind.wrap IntKind.i64 (Prod.fst s_580 + (1 : Int)), Prod.snd a_570))
    else none
  else
    some (Sum.inr (Sum.inr (Prod.snd s_580)))

noncomputable def slices_IndexFunc___string_string_ (s_539 : List (List UInt8)) (o0_540 : List (List UInt8)) : Option (Int × List (List UInt8)) :=
  (iter (slices_IndexFunc___string_string__b0 (s_539) ((↑(List.length s_539) : Int))) ((0 : Int), o0_540)).bind (Sum.elim (fun t_573 =>
    some (Prod.fst t_573, Prod.snd t_573)) (fun t_575 =>
    some ((-1 : Int), t_575)))

def slices_DeleteFunc___string_string__res (r : List (List UInt8) × List (List UInt8)) : AV := (fun (r_601 : List (List UInt8) × List (List UInt8)) => AV.list Ty.str (Prod.fst r_601) Bool.false) r

def slices_DeleteFunc___string_string__out (r : List (List UInt8) × List (List UInt8)) : List AO := (fun (r_601 : List (List UInt8) × List (List UInt8)) => [AO.box [AV.list Ty.str (Prod.snd r_601) Bool.false], AO.dead]) r

noncomputable def slices_DeleteFunc___string_string__b0 (s_591 : List (List UInt8)) (i_592 : Int) (s_602 : Int × List (List UInt8)) : Option ((Int × List (List UInt8)) ⊕ (List (List UInt8))) :=
  bif Decidable.decide (Prod.fst s_602 < (↑(List.length s_591) : Int)) then
    if (0 : Int) ≤ Prod.fst s_602 ∧ Prod.fst s_602 < (↑(List.length s_591) : Int) then
      (lists_Lose_1 (List.getD s_591 (Int.toNat (Prod.fst s_602)) []) (Prod.snd s_602)).bind fun a_595 =>
        bif !Prod.fst a_595 then
          if (0 : Int) ≤ i_592 ∧ i_592 < (↑(List.length s_591) : Int) then
            none
          else none
        else
          some (Sum.inl (IntKind.wrap IntKind.i64 (Prod.fst s_602 + (1 : Int)), Prod.snd a_595))
    else none
  else
    some (Sum.inr (Prod.snd s_602))

noncomputable def slices_DeleteFunc___string_string_ (o0_588 : List (List UInt8)) (o1_589 : List (List UInt8)) : Option (List (List UInt8) × List (List UInt8)) :=
  (slices_IndexFunc___string_string_ (List.drop (0 : Nat) o1_589) (o0_588)).bind fun a_590 =>
    bif Decidable.decide (Prod.fst a_590 = (-1 : Int)) then
      some (List.drop (0 : Nat) o1_589, Prod.snd a_590)
    else
      (iter (slices_DeleteFunc___string_string__b0 (List.drop (0 : Nat) o1_589) (Prod.fst a_590)) (IntKind.wrap IntKind.i64 (Prod.fst a_590 + (1 : Int)), Prod.snd a_590)).bind (fun t_597 =>
        if (0 : Int) ≤ Prod.fst a_590 ∧ Prod.fst a_590 ≤ (↑(List.length (List.drop (0 : Nat) o1_589)) : Int) ∧ (↑(List.length (List.drop (0 : Nat) o1_589)) : Int) ≤ (↑(List.length (List.drop (0 : Nat) o1_589)) : Int) then
          none
        else none)

def lists_Lose_res (r : List (List UInt8 × List (List UInt8))) : AV := (fun (r_606 : List (List UInt8 × List (List UInt8))) => AV.view (0 : Nat) (0 : Nat) Option.none) r

def lists_Lose_out (r : List (List UInt8 × List (List UInt8))) : List AO := (fun (r_606 : List (List UInt8 × List (List UInt8))) => [AO.row (Ty.prod Ty.str (Ty.list Ty.str)) r_606]) r

noncomputable def lists_Lose (l_525 : List (List UInt8 × List (List UInt8))) (name_526 : List UInt8) (paths_527 : List (List UInt8)) : Option (List (List UInt8 × List (List UInt8))) :=
  (lists_Find (l_525) (name_526)).bind fun a_528 =>
    (api_List__40 (l_525)).bind fun a_532 =>
      bif Decidable.decide (a_528 < (0 : Int)) then
        some (a_532)
      else
        if (0 : Int) ≤ a_528 ∧ a_528 < (↑(List.length l_525) : Int) then
          (slices_Clone___string_string_ (Prod.snd (List.getD l_525 (Int.toNat a_528) ([], [])))).bind fun a_536 =>
            (slices_DeleteFunc___string_string_ (paths_527) (a_536)).bind fun a_604 =>
              if (0 : Int) ≤ a_528 ∧ a_528 + (↑(0 : Nat) : Int) < (↑(List.length a_532) : Int) then
                if (0 : Nat) + Int.toNat a_528 < List.length a_532 then
                  some (List.set a_532 ((0 : Nat) + Int.toNat a_528) (Prod.fst (List.getD a_532 ((0 : Nat) + Int.toNat a_528) ([], [])), Prod.fst a_604))
                else none
              else none
        else none

def cellarerref13_Minus_res (r : List (List UInt8)) : AV := (fun (r_624 : List (List UInt8)) => AV.view (0 : Nat) (0 : Nat) Option.none) r

def cellarerref13_Minus_out (r : List (List UInt8)) : List AO := (fun (r_624 : List (List UInt8)) => [AO.row Ty.str r_624]) r

noncomputable def cellarerref13_Minus_b0 (l_615 : List (List UInt8)) (others_616 : List (List UInt8)) (s_625 : Int × List (List UInt8)) : Option ((Int × List (List UInt8)) ⊕ (List (List UInt8))) :=
  bif Decidable.decide (Prod.fst s_625 < (↑(List.length l_615) : Int)) then
    if (0 : Int) ≤ Prod.fst s_625 ∧ Prod.fst s_625 < (↑(List.length l_615) : Int) then
      (cellarerref02_Has (others_616) (List.getD l_615 (Int.toNat (Prod.fst s_625)) [])).bind fun a_619 =>
        bif !a_619 then
          if (0 : Int) ≤ Prod.fst s_625 ∧ Prod.fst s_625 < (↑(List.length l_615) : Int) then
            if (List.length (Prod.snd s_625) + List.length ((fun (x : List (Ty.T Ty.str)) => x) [List.getD l_615 (Int.toNat (Prod.fst s_625)) []])) * (16 : Nat) ≤ (17592186044416 : Nat) then
              some (Sum.inl (IntKind.wrap IntKind.i64 (Prod.fst s_625 + (1 : Int)), Prod.snd s_625 ++ [List.getD l_615 (Int.toNat (Prod.fst s_625)) []]))
            else none
          else none
        else
          some (Sum.inl (IntKind.wrap IntKind.i64 (Prod.fst s_625 + (1 : Int)), Prod.snd s_625))
    else none
  else
    some (Sum.inr (Prod.snd s_625))

noncomputable def cellarerref13_Minus (l_609 : List (List UInt8)) (others_610 : List (List UInt8)) : Option (List (List UInt8)) :=
  (iter (cellarerref13_Minus_b0 (l_609) (others_610)) ((0 : Int), [])).bind (fun t_621 =>
    some (t_621))

def cellarerref13_Lose_res (r : List (List UInt8 × List (List UInt8))) : AV := (fun (r_659 : List (List UInt8 × List (List UInt8))) => AV.view (0 : Nat) (0 : Nat) Option.none) r

def cellarerref13_Lose_out (r : List (List UInt8 × List (List UInt8))) : List AO := (fun (r_659 : List (List UInt8 × List (List UInt8))) => [AO.row (Ty.prod Ty.str (Ty.list Ty.str)) r_659]) r

noncomputable def cellarerref13_Lose_b0 (l_644 : List (List UInt8 × List (List UInt8))) (name_645 : List UInt8) (paths_646 : List (List UInt8)) (at_647 : Int) (s_660 : Int × List (List UInt8 × List (List UInt8))) : Option ((Int × List (List UInt8 × List (List UInt8))) ⊕ (List (List UInt8 × List (List UInt8)))) :=
  bif Decidable.decide (Prod.fst s_660 < (↑(List.length l_644) : Int)) then
    if (0 : Int) ≤ Prod.fst s_660 ∧ Prod.fst s_660 < (↑(List.length l_644) : Int) then
      Option.bind (α := List (List UInt8) ⊕ Unit) (
        bif Decidable.decide (Prod.fst s_660 = at_647) then
          (cellarerref13_Minus (Prod.snd (List.getD l_644 (Int.toNat (Prod.fst s_660)) ([], []))) (paths_646)).bind fun a_650 =>
            some (Sum.inl (a_650))
        else
          some (Sum.inr ())) (Sum.elim (fun t_652 =>
        if (List.length (Prod.snd s_660) + List.length (List.drop (0 : Nat) [(name_645, List.drop (0 : Nat) t_652)])) * (40 : Nat) ≤ (17592186044416 : Nat) then
          some (Sum.inl (IntKind.wrap IntKind.i64 (Prod.fst s_660 + (1 : Int)), Prod.snd s_660 ++ List.drop (0 : Nat) [(name_645, List.drop (0 : Nat) t_652)]))
        else none) (fun t_653 =>
        if (List.length (Prod.snd s_660) + List.length ((fun (x : List (Ty.T (Ty.prod Ty.str (Ty.list Ty.str)))) => x) [(Prod.fst (List.getD l_644 (Int.toNat (Prod.fst s_660)) ([], [])), Prod.snd (List.getD l_644 (Int.toNat (Prod.fst s_660)) ([], [])))])) * (40 : Nat) ≤ (17592186044416 : Nat) then
          some (Sum.inl (IntKind.wrap IntKind.i64 (Prod.fst s_660 + (1 : Int)), Prod.snd s_660 ++ [(Prod.fst (List.getD l_644 (Int.toNat (Prod.fst s_660)) ([], [])), Prod.snd (List.getD l_644 (Int.toNat (Prod.fst s_660)) ([], [])))]))
        else none))
    else none
  else
    some (Sum.inr (Prod.snd s_660))

noncomputable def cellarerref13_Lose (l_630 : List (List UInt8 × List (List UInt8))) (name_631 : List UInt8) (paths_632 : List (List UInt8)) : Option (List (List UInt8 × List (List UInt8))) :=
  (cellarerref13_Find (l_630) (name_631)).bind fun a_633 =>
    (iter (cellarerref13_Lose_b0 (l_630) (name_631) (paths_632) (a_633)) ((0 : Int), [])).bind (fun t_656 =>
      some (t_656))

def lists_Put_1_res (r : Bool × List UInt8 × List (List UInt8)) : AV := (fun (r_684 : Bool × List UInt8 × List (List UInt8)) => AV.bool (Prod.fst r_684)) r

def lists_Put_1_out (r : Bool × List UInt8 × List (List UInt8)) : List AO := (fun (r_684 : Bool × List UInt8 × List (List UInt8)) => [AO.box [AV.str (Prod.fst (Prod.snd r_684)), AV.list Ty.str (Prod.snd (Prod.snd r_684)) Bool.false]]) r

noncomputable def lists_Put_1 (y_677 : List UInt8) (y_678 : List (List UInt8)) (o0_679 : List UInt8) (o0_680 : List (List UInt8)) : Option (Bool × List UInt8 × List (List UInt8)) :=
  some (!(Go.Op.bytesLess y_677 o0_679 || Decidable.decide (y_677 = o0_679)), o0_679, o0_680)

def api_List__v1_res (r : Int × List UInt8 × List (List UInt8)) : AV := (fun (r_697 : Int × List UInt8 × List (List UInt8)) => AV.int IntKind.i64 (Prod.fst r_697)) r

def api_List__v1_out (r : Int × List UInt8 × List (List UInt8)) : List AO := (fun (r_697 : Int × List UInt8 × List (List UInt8)) => [AO.box [AV.str (Prod.fst (Prod.snd r_697)), AV.list Ty.str (Prod.snd (Prod.snd r_697)) Bool.false]]) r

noncomputable def api_List__v1_b0 (s_672 : List (List UInt8 × List (List UInt8))) (t_673 : Int) (s_698 : Int × List UInt8 × List (List UInt8)) : Option ((Int × List UInt8 × List (List UInt8)) ⊕ (Int × List UInt8 × List (List UInt8) ⊕ List UInt8 × List (List UInt8))) :=
  bif Decidable.decide (Prod.fst s_698 < t_673) then
    if (0 : Int) ≤ Prod.fst s_698 ∧ Prod.fst s_698 < (↑(List.length s_672) : Int) then
      (lists_Put_1 (Prod.fst (List.getD s_672 (Int.toNat (Prod.fst s_698)) ([], []))) (Prod.snd (List.getD s_672 (Int.toNat (Prod.fst s_698)) ([], []))) (Prod.fst (Prod.snd s_698)) (Prod.snd (Prod.snd s_698))).bind fun a_685 =>
        bif Prod.fst a_685 then
          some (Sum.inr (Sum.inl (Prod.fst s_698, Prod.fst (Prod.snd a_685), Prod.snd (Prod.snd a_685))))
        else
          some (Sum.inl (IntKind.wrap IntKind.i64 (Prod.fst s_698 + (1 : Int)), Prod.fst (Prod.snd a_685), Prod.snd (Prod.snd a_685)))
    else none
  else
    some (Sum.inr (Sum.inr (Prod.fst (Prod.snd s_698), Prod.snd (Prod.snd s_698))))

noncomputable def api_List__v1 (s_669 : List (List UInt8 × List (List UInt8))) (o0_670 : List UInt8) (o0_671 : List (List UInt8)) : Option (Int × List UInt8 × List (List UInt8)) :=
  (iter (api_List__v1_b0 (s_669) ((↑(List.length s_669) : Int))) ((0 : Int), o0_670, o0_671)).bind (Sum.elim (fun t_689 =>
    some (Prod.fst t_689, Prod.fst (Prod.snd t_689), Prod.snd (Prod.snd t_689))) (fun t_692 =>
    some ((-1 : Int), Prod.fst t_692, Prod.snd t_692)))

def lists_Put_res (r : List (List UInt8 × List (List UInt8))) : AV := (fun (r_704 : List (List UInt8 × List (List UInt8))) => AV.view (0 : Nat) (0 : Nat) Option.none) r

def lists_Put_out (r : List (List UInt8 × List (List UInt8))) : List AO := (fun (r_704 : List (List UInt8 × List (List UInt8))) => [AO.row (Ty.prod Ty.str (Ty.list Ty.str)) r_704]) r

noncomputable def lists_Put (l_664 : List (List UInt8 × List (List UInt8))) (x_665 : List UInt8) (x_666 : List (List UInt8)) : Option (List (List UInt8 × List (List UInt8))) :=
  (api_List__40 (l_664)).bind fun a_667 =>
    (lists_Find (l_664) (x_665)).bind fun a_668 =>
      bif Decidable.decide ((0 : Int) ≤ a_668) then
        if (0 : Int) ≤ a_668 ∧ a_668 + (↑(0 : Nat) : Int) < (↑(List.length a_667) : Int) then
          if (0 : Nat) + Int.toNat a_668 < List.length a_667 then
            some (List.set a_667 ((0 : Nat) + Int.toNat a_668) (x_665, x_666))
          else none
        else none
      else
        (api_List__v1 (l_664) (x_665) (x_666)).bind fun a_700 =>
          bif Decidable.decide (Prod.fst a_700 < (0 : Int)) then
            (api_List__50 ((↑(List.length l_664) : Int)) ([(Prod.fst (Prod.snd a_700), Prod.snd (Prod.snd a_700))]) (a_667)).bind fun a_701 =>
              some (a_701)
          else
            (api_List__50 (Prod.fst a_700) ([(Prod.fst (Prod.snd a_700), Prod.snd (Prod.snd a_700))]) (a_667)).bind fun a_702 =>
              some (a_702)

def lists_Drop_1_res (r : Bool × List UInt8) : AV := (fun (r_723 : Bool × List UInt8) => AV.bool (Prod.fst r_723)) r

def lists_Drop_1_out (r : Bool × List UInt8) : List AO := (fun (r_723 : Bool × List UInt8) => [AO.box [AV.str (Prod.snd r_723)]]) r

noncomputable def lists_Drop_1 (x_718 : List UInt8) (x_719 : List (List UInt8)) (o0_720 : List UInt8) : Option (Bool × List UInt8) :=
  some (Decidable.decide (x_718 = o0_720), o0_720)

def api_List__v2_res (r : Int × List UInt8) : AV := (fun (r_733 : Int × List UInt8) => AV.int IntKind.i64 (Prod.fst r_733)) r

def api_List__v2_out (r : Int × List UInt8) : List AO := (fun (r_733 : Int × List UInt8) => [AO.box [AV.str (Prod.snd r_733)]]) r

noncomputable def api_List__v2_b0 (s_714 : List (List UInt8 × List (List UInt8))) (t_715 : Int) (s_734 : Int × List UInt8) : Option ((Int × List UInt8) ⊕ (Int × List UInt8 ⊕ List UInt8)) :=
  bif Decidable.decide (Prod.fst s_734 < t_715) then
    if (0 : Int) ≤ Prod.fst s_734 ∧ Prod.fst s_734 < (↑(List.length s_714) : Int) then
      (lists_Drop_1 (Prod.fst (List.getD s_714 (Int.toNat (Prod.fst s_734)) ([], []))) (Prod.snd (List.getD s_714 (Int.toNat (Prod.fst s_734)) ([], []))) (Prod.snd s_734)).bind fun a_724 =>
        bif Prod.fst a_724 then
          some (Sum.inr (Sum.inl (Prod.fst s_734, Prod.snd a_724)))
        else
          some (Sum.inl (IntKind.wrap IntKind.i64 (Prod.fst s_734 + (1 : Int)), Prod.snd a_724))
    else none
  else
    some (Sum.inr (Sum.inr (Prod.snd s_734)))

noncomputable def api_List__v2 (s_712 : List (List UInt8 × List (List UInt8))) (o0_713 : List UInt8) : Option (Int × List UInt8) :=
  (iter (api_List__v2_b0 (s_712) ((↑(List.length s_712) : Int))) ((0 : Int), o0_713)).bind (Sum.elim (fun t_727 =>
    some (Prod.fst t_727, Prod.snd t_727)) (fun t_729 =>
    some ((-1 : Int), t_729)))

def api_List__51_res (r : List UInt8 × List (List UInt8 × List (List UInt8))) : AV := (fun (r_749 : List UInt8 × List (List UInt8 × List (List UInt8))) => AV.view (1 : Nat) (0 : Nat) Option.none) r

def api_List__51_out (r : List UInt8 × List (List UInt8 × List (List UInt8))) : List AO := (fun (r_749 : List UInt8 × List (List UInt8 × List (List UInt8))) => [AO.box [AV.str (Prod.fst r_749)], AO.row (Ty.prod Ty.str (Ty.list Ty.str)) (Prod.snd r_749)]) r

noncomputable def api_List__51_b0  (s_750 : Int × Int × List UInt8 × List (List UInt8 × List (List UInt8))) : Option ((Int × Int × List UInt8 × List (List UInt8 × List (List UInt8))) ⊕ (Int × List UInt8 × List (List UInt8 × List (List UInt8)))) :=
  bif Decidable.decide (Prod.fst (Prod.snd s_750) < (↑(List.length (Prod.snd (Prod.snd (Prod.snd s_750)))) : Int) - (↑(0 : Nat) : Int)) then
    if (0 : Int) ≤ Prod.fst (Prod.snd s_750) ∧ Prod.fst (Prod.snd s_750) + (↑(0 : Nat) : Int) < (↑(List.length (Prod.snd (Prod.snd (Prod.snd s_750)))) : Int) then
      if (0 : Nat) + Int.toNat (Prod.fst (Prod.snd s_750)) < List.length (Prod.snd (Prod.snd (Prod.snd s_750))) then
        (lists_Drop_1 (Prod.fst (List.getD (Prod.snd (Prod.snd (Prod.snd s_750))) ((0 : Nat) + Int.toNat (Prod.fst (Prod.snd s_750))) ([], []))) (Prod.snd (List.getD (Prod.snd (Prod.snd (Prod.snd s_750))) ((0 : Nat) + Int.toNat (Prod.fst (Prod.snd s_750))) ([], []))) (Prod.fst (Prod.snd (Prod.snd s_750)))).bind fun a_741 =>
          bif !Prod.fst a_741 then
            if (0 : Int) ≤ Prod.fst s_750 ∧ Prod.fst s_750 + (↑(0 : Nat) : Int) < (↑(List.length (Prod.snd (Prod.snd (Prod.snd s_750)))) : Int) then
              if (0 : Nat) + Int.toNat (Prod.fst s_750) < List.length (Prod.snd (Prod.snd (Prod.snd s_750))) then
                some (Sum.inl (IntKind.wrap IntKind.i64 (Prod.fst s_750 + (1 : Int)), IntKind.wrap IntKind.i64 (Prod.fst (Prod.snd s_750) + (1 : Int)), Prod.snd a_741, List.set (Prod.snd (Prod.snd (Prod.snd s_750))) ((0 : Nat) + Int.toNat (Prod.fst s_750)) (Prod.fst (List.getD (Prod.snd (Prod.snd (Prod.snd s_750))) ((0 : Nat) + Int.toNat (Prod.fst (Prod.snd s_750))) ([], [])), Prod.snd (List.getD (Prod.snd (Prod.snd (Prod.snd s_750))) ((0 : Nat) + Int.toNat (Prod.fst (Prod.snd s_750))) ([], [])))))
              else none
            else none
          else
            some (Sum.inl (Prod.fst s_750, IntKind.wrap IntKind.i64 (Prod.fst (Prod.snd s_750) + (1 : Int)), Prod.snd a_741, Prod.snd (Prod.snd (Prod.snd s_750))))
      else none
    else none
  else
    some (Sum.inr (Prod.fst s_750, Prod.fst (Prod.snd (Prod.snd s_750)), Prod.snd (Prod.snd (Prod.snd s_750))))

noncomputable def api_List__51 (o0_710 : List UInt8) (o1_711 : List (List UInt8 × List (List UInt8))) : Option (List UInt8 × List (List UInt8 × List (List UInt8))) :=
  (api_List__v2 (List.drop (0 : Nat) o1_711) (o0_710)).bind fun a_736 =>
    bif Decidable.decide (Prod.fst a_736 = (-1 : Int)) then
      some (Prod.snd a_736, o1_711)
    else
      (iter (api_List__51_b0 ) (Prod.fst a_736, IntKind.wrap IntKind.i64 (Prod.fst a_736 + (1 : Int)), Prod.snd a_736, o1_711)).bind (fun t_745 =>
        if (0 : Int) ≤ Prod.fst t_745 ∧ (↑(0 : Nat) : Int) + Prod.fst t_745 ≤ (↑(List.length (Prod.snd (Prod.snd t_745))) : Int) then
          if (0 : Int) ≤ (0 : Int) ∧ (0 : Int) ≤ Prod.fst t_745 ∧ (↑(0 : Nat) : Int) + Prod.fst t_745 ≤ (↑(List.length (List.take ((0 : Nat) + Int.toNat (Prod.fst t_745)) (Prod.snd (Prod.snd t_745)) ++ List.replicate (List.length (Prod.snd (Prod.snd t_745)) - ((0 : Nat) + Int.toNat (Prod.fst t_745))) ([], []))) : Int) then
            some (Prod.fst (Prod.snd t_745), List.take ((0 : Nat) + Int.toNat (Prod.fst t_745)) (List.take ((0 : Nat) + Int.toNat (Prod.fst t_745)) (Prod.snd (Prod.snd t_745)) ++ List.replicate (List.length (Prod.snd (Prod.snd t_745)) - ((0 : Nat) + Int.toNat (Prod.fst t_745))) ([], [])))
          else none
        else none)

def lists_Drop_res (r : List (List UInt8 × List (List UInt8))) : AV := (fun (r_754 : List (List UInt8 × List (List UInt8))) => AV.view (0 : Nat) (0 : Nat) Option.none) r

def lists_Drop_out (r : List (List UInt8 × List (List UInt8))) : List AO := (fun (r_754 : List (List UInt8 × List (List UInt8))) => [AO.row (Ty.prod Ty.str (Ty.list Ty.str)) r_754]) r

noncomputable def lists_Drop (l_707 : List (List UInt8 × List (List UInt8))) (name_708 : List UInt8) : Option (List (List UInt8 × List (List UInt8))) :=
  (api_List__40 (l_707)).bind fun a_709 =>
    (api_List__51 (name_708) (a_709)).bind fun a_752 =>
      some (Prod.snd a_752)

def cellarerref13_Put_res (r : List (List UInt8 × List (List UInt8))) : AV := (fun (r_786 : List (List UInt8 × List (List UInt8))) => AV.view (0 : Nat) (0 : Nat) Option.none) r

def cellarerref13_Put_out (r : List (List UInt8 × List (List UInt8))) : List AO := (fun (r_786 : List (List UInt8 × List (List UInt8))) => [AO.row (Ty.prod Ty.str (Ty.list Ty.str)) r_786]) r

noncomputable def cellarerref13_Put_b0 (l_770 : List (List UInt8 × List (List UInt8))) (old_771 : Int) (o0_774 : List UInt8) (o0_775 : List (List UInt8)) (s_787 : Bool × Int × List (List UInt8 × List (List UInt8))) : Option ((Bool × Int × List (List UInt8 × List (List UInt8))) ⊕ (Bool × List (List UInt8 × List (List UInt8)))) :=
  bif Decidable.decide (Prod.fst (Prod.snd s_787) < (↑(List.length l_770) : Int)) then
    Option.bind (α := Bool × List (List UInt8 × List (List UInt8))) (
      bif !Prod.fst s_787 then
        if (0 : Int) ≤ Prod.fst (Prod.snd s_787) ∧ Prod.fst (Prod.snd s_787) < (↑(List.length l_770) : Int) then
          bif !(Go.Op.bytesLess (Prod.fst (List.getD l_770 (Int.toNat (Prod.fst (Prod.snd s_787))) ([], []))) o0_774 || Decidable.decide (Prod.fst (List.getD l_770 (Int.toNat (Prod.fst (Prod.snd s_787))) ([], [])) = o0_774)) then
            if (List.length (Prod.snd (Prod.snd s_787)) + List.length ((fun (x : List (Ty.T (Ty.prod Ty.str (Ty.list Ty.str)))) => x) [(o0_774, o0_775)])) * (40 : Nat) ≤ (17592186044416 : Nat) then
              some (Bool.true, Prod.snd (Prod.snd s_787) ++ [(o0_774, o0_775)])
            else none
          else
            some (Prod.fst s_787, Prod.snd (Prod.snd s_787))
        else none
      else
        some (Prod.fst s_787, Prod.snd (Prod.snd s_787))) (fun t_779 =>
      bif Decidable.decide (Prod.fst (Prod.snd s_787) = old_771) then
        if (List.length (Prod.snd t_779) + List.length ((fun (x : List (Ty.T (Ty.prod Ty.str (Ty.list Ty.str)))) => x) [(o0_774, o0_775)])) * (40 : Nat) ≤ (17592186044416 : Nat) then
          some (Sum.inl (Prod.fst t_779, IntKind.wrap IntKind.i64 (Prod.fst (Prod.snd s_787) + (1 : Int)), Prod.snd t_779 ++ [(o0_774, o0_775)]))
        else none
      else
        if (0 : Int) ≤ Prod.fst (Prod.snd s_787) ∧ Prod.fst (Prod.snd s_787) < (↑(List.length l_770) : Int) then
          if (List.length (Prod.snd t_779) + List.length ((fun (x : List (Ty.T (Ty.prod Ty.str (Ty.list Ty.str)))) => x) [(Prod.fst (List.getD l_770 (Int.toNat (Prod.fst (Prod.snd s_787))) ([], [])), Prod.snd (List.getD l_770 (Int.toNat (Prod.fst (Prod.snd s_787))) ([], [])))])) * (40 : Nat) ≤ (17592186044416 : Nat) then
            some (Sum.inl (Prod.fst t_779, IntKind.wrap IntKind.i64 (Prod.fst (Prod.snd s_787) + (1 : Int)), Prod.snd t_779 ++ [(Prod.fst (List.getD l_770 (Int.toNat (Prod.fst (Prod.snd s_787))) ([], [])), Prod.snd (List.getD l_770 (Int.toNat (Prod.fst (Prod.snd s_787))) ([], [])))]))
          else none
        else none)
  else
    some (Sum.inr (Prod.fst s_787, Prod.snd (Prod.snd s_787)))

noncomputable def cellarerref13_Put (l_757 : List (List UInt8 × List (List UInt8))) (x_758 : List UInt8) (x_759 : List (List UInt8)) : Option (List (List UInt8 × List (List UInt8))) :=
  (cellarerref13_Find (l_757) (x_758)).bind fun a_760 =>
    (iter (cellarerref13_Put_b0 (l_757) (a_760) (x_758) (x_759)) (Decidable.decide ((0 : Int) ≤ a_760), (0 : Int), [])).bind (fun t_783 =>
      bif !Prod.fst t_783 then
        if (List.length (Prod.snd t_783) + List.length ((fun (x : List (Ty.T (Ty.prod Ty.str (Ty.list Ty.str)))) => x) [(x_758, x_759)])) * (40 : Nat) ≤ (17592186044416 : Nat) then
          some (Prod.snd t_783 ++ [(x_758, x_759)])
        else none
      else
        some (Prod.snd t_783))

def cellarerref13_Drop_res (r : List (List UInt8 × List (List UInt8))) : AV := (fun (r_804 : List (List UInt8 × List (List UInt8))) => AV.view (0 : Nat) (0 : Nat) Option.none) r

def cellarerref13_Drop_out (r : List (List UInt8 × List (List UInt8))) : List AO := (fun (r_804 : List (List UInt8 × List (List UInt8))) => [AO.row (Ty.prod Ty.str (Ty.list Ty.str)) r_804]) r

noncomputable def cellarerref13_Drop_b0 (l_796 : List (List UInt8 × List (List UInt8))) (name_797 : List UInt8) (s_805 : Int × List (List UInt8 × List (List UInt8))) : Option ((Int × List (List UInt8 × List (List UInt8))) ⊕ (List (List UInt8 × List (List UInt8)))) :=
  bif Decidable.decide (Prod.fst s_805 < (↑(List.length l_796) : Int)) then
    if (0 : Int) ≤ Prod.fst s_805 ∧ Prod.fst s_805 < (↑(List.length l_796) : Int) then
      bif !Decidable.decide (Prod.fst (List.getD l_796 (Int.toNat (Prod.fst s_805)) ([], [])) = name_797) then
        if (0 : Int) ≤ Prod.fst s_805 ∧ Prod.fst s_805 < (↑(List.length l_796) : Int) then
          if (List.length (Prod.snd s_805) + List.length ((fun (x : List (Ty.T (Ty.prod Ty.str (Ty.list Ty.str)))) => x) [(Prod.fst (List.getD l_796 (Int.toNat (Prod.fst s_805)) ([], [])), Prod.snd (List.getD l_796 (Int.toNat (Prod.fst s_805)) ([], [])))])) * (40 : Nat) ≤ (17592186044416 : Nat) then
            some (Sum.inl (IntKind.wrap IntKind.i64 (Prod.fst s_805 + (1 : Int)), Prod.snd s_805 ++ [(Prod.fst (List.getD l_796 (Int.toNat (Prod.fst s_805)) ([], [])), Prod.snd (List.getD l_796 (Int.toNat (Prod.fst s_805)) ([], [])))]))
          else none
        else none
      else
        some (Sum.inl (IntKind.wrap IntKind.i64 (Prod.fst s_805 + (1 : Int)), Prod.snd s_805))
    else none
  else
    some (Sum.inr (Prod.snd s_805))

noncomputable def cellarerref13_Drop (l_791 : List (List UInt8 × List (List UInt8))) (name_792 : List UInt8) : Option (List (List UInt8 × List (List UInt8))) :=
  (iter (cellarerref13_Drop_b0 (l_791) (name_792)) ((0 : Int), [])).bind (fun t_801 =>
    some (t_801))

def cellarerlaw13_awake_res (r : Bool) : AV := (fun (r_812 : Bool) => AV.bool r_812) r

def cellarerlaw13_awake_out (r : Bool) : List AO := (fun (r_812 : Bool) => []) r

noncomputable def cellarerlaw13_awake  : Option (Bool) :=
  (lists_Print ([(97 : UInt8)]) ([[(47 : UInt8), (98 : UInt8)]])).bind fun a_807 =>
    (lists_Parse ([(97 : UInt8)]) (Prod.fst a_807)).bind fun a_808 =>
      bif Decidable.decide (Prod.fst a_807 = [(47 : UInt8), (98 : UInt8), (10 : UInt8)]) then
        bif Decidable.decide (Prod.snd a_807 = (0 : Int)) then
          bif Decidable.decide (Prod.snd (Prod.snd a_808) = (0 : Int)) then
            bif Decidable.decide (Prod.fst a_808 = [(97 : UInt8)]) then
              bif Decidable.decide ((↑(List.length (Prod.fst (Prod.snd a_808))) : Int) = (1 : Int)) then
                (lists_Owners ([(Prod.fst a_808, Prod.fst (Prod.snd a_808))]) ([(47 : UInt8), (98 : UInt8)])).bind fun a_809 =>
                  bif Decidable.decide ((↑(List.length a_809) : Int) - (↑(0 : Nat) : Int) = (1 : Int)) then
                    (lists_Right (Prod.fst a_808) (Prod.fst (Prod.snd a_808))).bind fun a_810 =>
                      some (a_810)
                  else
                    some (Bool.false)
              else
                some (Bool.false)
            else
              some (Bool.false)
          else
            some (Bool.false)
        else
          some (Bool.false)
      else
        some (Bool.false)

def cellarerlaw13_ListsParses_res (r : Bool) : AV := (fun (r_833 : Bool) => AV.bool r_833) r

def cellarerlaw13_ListsParses_out (r : Bool) : List AO := (fun (r_833 : Bool) => []) r

noncomputable def cellarerlaw13_ListsParses (name_815 : List UInt8) (s_816 : List UInt8) : Option (Bool) :=
  Option.bind (α := Bool ⊕ Unit) (
    bif Decidable.decide ((3000 : Int) < (↑(List.length s_816) : Int)) then
      (cellarerlaw13_awake ).bind fun a_817 =>
        some (Sum.inl (a_817))
    else
      bif Decidable.decide ((300 : Int) < (↑(List.length name_815) : Int)) then
        (cellarerlaw13_awake ).bind fun a_818 =>
          some (Sum.inl (a_818))
      else
        some (Sum.inr ())) (Sum.elim (fun t_820 =>
    some (t_820)) (fun t_821 =>
    (lists_Parse (name_815) (s_816)).bind fun a_822 =>
      (cellarerref13_Parse (name_815) (s_816)).bind fun a_823 =>
        Option.bind (α := Unit ⊕ Unit) (
          bif !Decidable.decide (Prod.snd (Prod.snd a_823) = Decidable.decide (Prod.snd (Prod.snd a_822) = (0 : Int))) then
            some (Sum.inl ())
          else
            (cellarerref13_Same ([(Prod.fst a_822, Prod.fst (Prod.snd a_822))]) ([(Prod.fst a_823, Prod.fst (Prod.snd a_823))])).bind fun a_824 =>
              bif !a_824 then
                some (Sum.inl ())
              else
                bif !Prod.snd (Prod.snd a_823) then
                  bif !Decidable.decide (Prod.snd (Prod.snd a_822) = (2 : Int)) then
                    some (Sum.inl ())
                  else
                    some (Sum.inr ())
                else
                  some (Sum.inr ())) (Sum.elim (fun t_825 =>
          some (Bool.false)) (fun t_826 =>
          (lists_Print (Prod.fst a_822) (Prod.fst (Prod.snd a_822))).bind fun a_827 =>
            bif !Prod.snd (Prod.snd a_823) then
              (cellarerlaw13_awake ).bind fun a_828 =>
                some (a_828)
            else
              bif Decidable.decide (Prod.snd a_827 = (0 : Int)) then
                bif Decidable.decide (Prod.fst a_827 = s_816) then
                  (cellarerlaw13_awake ).bind fun a_829 =>
                    some (a_829)
                else
                  some (Bool.false)
              else
                some (Bool.false)))))

def cellarerlaw13_ListsPrints_res (r : Bool) : AV := (fun (r_861 : Bool) => AV.bool r_861) r

def cellarerlaw13_ListsPrints_out (r : Bool) : List AO := (fun (r_861 : Bool) => []) r

noncomputable def cellarerlaw13_ListsPrints (x_836 : List UInt8) (x_837 : List (List UInt8)) (l_838 : List (List UInt8 × List (List UInt8))) : Option (Bool) :=
  Option.bind (α := Bool ⊕ Unit) (
    (cellarerlaw13_Few ([(x_836, x_837)])).bind fun a_839 =>
      bif !a_839 then
        (cellarerlaw13_awake ).bind fun a_840 =>
          some (Sum.inl (a_840))
      else
        (cellarerlaw13_Few (l_838)).bind fun a_841 =>
          bif !a_841 then
            (cellarerlaw13_awake ).bind fun a_842 =>
              some (Sum.inl (a_842))
          else
            some (Sum.inr ())) (Sum.elim (fun t_844 =>
    some (t_844)) (fun t_845 =>
    (lists_Print (x_836) (x_837)).bind fun a_846 =>
      (cellarerref13_Print (x_836) (x_837)).bind fun a_847 =>
        Option.bind (α := Unit ⊕ Unit) (
          bif !Decidable.decide (Prod.fst a_846 = Prod.fst a_847) then
            some (Sum.inl ())
          else
            bif !Decidable.decide (Prod.snd a_846 = Prod.snd a_847) then
              some (Sum.inl ())
            else
              (lists_Right (x_836) (x_837)).bind fun a_848 =>
                (cellarerref13_Right (x_836) (x_837)).bind fun a_849 =>
                  bif !Decidable.decide (a_848 = a_849) then
                    some (Sum.inl ())
                  else
                    (lists_Check (l_838)).bind fun a_850 =>
                      (cellarerref13_Check (l_838)).bind fun a_851 =>
                        bif !Decidable.decide (a_850 = a_851) then
                          some (Sum.inl ())
                        else
                          some (Sum.inr ())) (Sum.elim (fun t_852 =>
          some (Bool.false)) (fun t_853 =>
          bif !Decidable.decide (Prod.snd a_846 = (0 : Int)) then
            (cellarerlaw13_awake ).bind fun a_854 =>
              some (a_854)
          else
            (lists_Parse (x_836) (Prod.fst a_846)).bind fun a_855 =>
              bif Decidable.decide (Prod.snd (Prod.snd a_855) = (0 : Int)) then
                (cellarerref13_Same ([(x_836, x_837)]) ([(Prod.fst a_855, Prod.fst (Prod.snd a_855))])).bind fun a_856 =>
                  bif a_856 then
                    (cellarerlaw13_awake ).bind fun a_857 =>
                      some (a_857)
                  else
                    some (Bool.false)
              else
                some (Bool.false)))))

def cellarerlaw13_ListsOwners_res (r : Bool) : AV := (fun (r_892 : Bool) => AV.bool r_892) r

def cellarerlaw13_ListsOwners_out (r : Bool) : List AO := (fun (r_892 : Bool) => []) r

noncomputable def cellarerlaw13_ListsOwners (l_865 : List (List UInt8 × List (List UInt8))) (p_866 : List UInt8) (x_867 : List UInt8) (x_868 : List (List UInt8)) : Option (Bool) :=
  Option.bind (α := Bool ⊕ Unit) (
    (cellarerlaw13_Few (l_865)).bind fun a_869 =>
      bif !a_869 then
        (cellarerlaw13_awake ).bind fun a_870 =>
          some (Sum.inl (a_870))
      else
        (cellarerlaw13_Few ([(x_867, x_868)])).bind fun a_871 =>
          bif !a_871 then
            (cellarerlaw13_awake ).bind fun a_872 =>
              some (Sum.inl (a_872))
          else
            bif Decidable.decide ((300 : Int) < (↑(List.length p_866) : Int)) then
              (cellarerlaw13_awake ).bind fun a_873 =>
                some (Sum.inl (a_873))
            else
              some (Sum.inr ())) (Sum.elim (fun t_875 =>
    some (t_875)) (fun t_876 =>
    (lists_Lose (l_865) (x_867) (x_868)).bind fun a_877 =>
      Option.bind (α := Unit ⊕ Unit) (
        (lists_Owners (l_865) (p_866)).bind fun a_878 =>
          (cellarerref13_Owners (l_865) (p_866)).bind fun a_879 =>
            (cellarerref02_Same (List.drop (0 : Nat) a_878) (List.drop (0 : Nat) a_879)).bind fun a_880 =>
              bif !a_880 then
                some (Sum.inl ())
              else
                (cellarerref13_Lose (l_865) (x_867) (x_868)).bind fun a_881 =>
                  (cellarerref13_Same (List.drop (0 : Nat) a_877) (List.drop (0 : Nat) a_881)).bind fun a_882 =>
                    bif !a_882 then
                      some (Sum.inl ())
                    else
                      some (Sum.inr ())) (Sum.elim (fun t_883 =>
        some (Bool.false)) (fun t_884 =>
        (lists_Find (List.drop (0 : Nat) a_877) (x_867)).bind fun a_885 =>
          bif Decidable.decide (a_885 < (0 : Int)) then
            (cellarerlaw13_awake ).bind fun a_886 =>
              some (a_886)
          else
            if (0 : Int) ≤ a_885 ∧ a_885 + (↑(0 : Nat) : Int) < (↑(List.length a_877) : Int) then
              if (0 : Nat) + Int.toNat a_885 < List.length a_877 then
                (cellarerref13_Minus (Prod.snd (List.getD a_877 ((0 : Nat) + Int.toNat a_885) ([], []))) (x_868)).bind fun a_887 =>
                  if (0 : Int) ≤ a_885 ∧ a_885 + (↑(0 : Nat) : Int) < (↑(List.length a_877) : Int) then
                    if (0 : Nat) + Int.toNat a_885 < List.length a_877 then
                      bif Decidable.decide ((↑(List.length a_887) : Int) - (↑(0 : Nat) : Int) = (↑(List.length (Prod.snd (List.getD a_877 ((0 : Nat) + Int.toNat a_885) ([], [])))) : Int)) then
                        (cellarerlaw13_awake ).bind fun a_888 =>
                          some (a_888)
                      else
                        some (Bool.false)
                    else none
                  else none
              else none
            else none))))

def cellarerlaw13_ListsPuts_res (r : Bool) : AV := (fun (r_921 : Bool) => AV.bool r_921) r

def cellarerlaw13_ListsPuts_out (r : Bool) : List AO := (fun (r_921 : Bool) => []) r

noncomputable def cellarerlaw13_ListsPuts (l_896 : List (List UInt8 × List (List UInt8))) (x_897 : List UInt8) (x_898 : List (List UInt8)) (name_899 : List UInt8) : Option (Bool) :=
  Option.bind (α := Bool ⊕ Unit) (
    (cellarerlaw13_Few (l_896)).bind fun a_900 =>
      bif !a_900 then
        (cellarerlaw13_awake ).bind fun a_901 =>
          some (Sum.inl (a_901))
      else
        (cellarerlaw13_Few ([(x_897, x_898)])).bind fun a_902 =>
          bif !a_902 then
            (cellarerlaw13_awake ).bind fun a_903 =>
              some (Sum.inl (a_903))
          else
            bif Decidable.decide ((300 : Int) < (↑(List.length name_899) : Int)) then
              (cellarerlaw13_awake ).bind fun a_904 =>
                some (Sum.inl (a_904))
            else
              some (Sum.inr ())) (Sum.elim (fun t_906 =>
    some (t_906)) (fun t_907 =>
    (lists_Put (l_896) (x_897) (x_898)).bind fun a_908 =>
      (lists_Drop (l_896) (name_899)).bind fun a_909 =>
        (cellarerref13_Put (l_896) (x_897) (x_898)).bind fun a_910 =>
          (cellarerref13_Same (List.drop (0 : Nat) a_908) (List.drop (0 : Nat) a_910)).bind fun a_911 =>
            bif a_911 then
              (cellarerref13_Drop (l_896) (name_899)).bind fun a_912 =>
                (cellarerref13_Same (List.drop (0 : Nat) a_909) (List.drop (0 : Nat) a_912)).bind fun a_913 =>
                  bif a_913 then
                    (lists_Find (l_896) (name_899)).bind fun a_914 =>
                      (cellarerref13_Find (l_896) (name_899)).bind fun a_915 =>
                        bif Decidable.decide (a_914 = a_915) then
                          (lists_Find (List.drop (0 : Nat) a_908) (x_897)).bind fun a_916 =>
                            bif Decidable.decide ((0 : Int) ≤ a_916) then
                              (lists_Find (List.drop (0 : Nat) a_909) (name_899)).bind fun a_917 =>
                                bif Decidable.decide (a_917 < (0 : Int)) then
                                  (cellarerlaw13_awake ).bind fun a_918 =>
                                    some (a_918)
                                else
                                  some (Bool.false)
                            else
                              some (Bool.false)
                        else
                          some (Bool.false)
                  else
                    some (Bool.false)
            else
              some (Bool.false)))

end Go.Cellar
