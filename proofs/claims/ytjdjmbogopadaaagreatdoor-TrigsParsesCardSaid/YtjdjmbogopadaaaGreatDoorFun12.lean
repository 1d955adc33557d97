/- The program's functions, as plain Lean functions: printed by a program out of the translation. No condition. -/
import Derived.Test.YtjdjmbogopadaaaGreatDoorIns12
set_option maxRecDepth 4000
set_option synthInstance.maxHeartbeats 2000000
set_option synthInstance.maxSize 100000
set_option linter.unusedVariables false
namespace Go.Cellar
open Go

def path_Name_res (r : Bool) : AV := (fun (r_16 : Bool) => AV.bool r_16) r

def path_Name_out (r : Bool) : List AO := (fun (r_16 : Bool) => []) r

noncomputable def path_Name_b0 (s_5 : List UInt8) (t_6 : Int) (s_17 : Int) : Option ((Int) ⊕ (Unit ⊕ Unit)) :=
  bif Decidable.decide (s_17 < t_6) then
    if (0 : Int) ≤ s_17 ∧ s_17 < (↑(List.length s_5) : Int) then
      Option.bind (α := Bool) (
        bif Decidable.decide ((97 : Int) ≤ (↑(UInt8.toNat (List.getD s_5 (Int.toNat s_17) (0 : UInt8))) : Int)) then
          bif Decidable.decide ((↑(UInt8.toNat (List.getD s_5 (Int.toNat s_17) (0 : UInt8))) : Int) ≤ (122 : Int)) then
            some (Bool.true)
          else
            bif Decidable.decide ((48 : Int) ≤ (↑(UInt8.toNat (List.getD s_5 (Int.toNat s_17) (0 : UInt8))) : Int)) then
              some (Decidable.decide ((↑(UInt8.toNat (List.getD s_5 (Int.toNat s_17) (0 : UInt8))) : Int) ≤ (57 : Int)))
            else
              some (Bool.false)
        else
          bif Decidable.decide ((48 : Int) ≤ (↑(UInt8.toNat (List.getD s_5 (Int.toNat s_17) (0 : UInt8))) : Int)) then
            some (Decidable.decide ((↑(UInt8.toNat (List.getD s_5 (Int.toNat s_17) (0 : UInt8))) : Int) ≤ (57 : Int)))
          else
            some (Bool.false)) (fun t_9 =>
        bif !t_9 then
          bif Decidable.decide (s_17 = (0 : Int)) then
            some (Sum.inr (Sum.inl ()))
          else
            bif !Decidable.decide ((↑(UInt8.toNat (List.getD s_5 (Int.toNat s_17) (0 : UInt8))) : Int) = (43 : Int)) then
              bif !Decidable.decide ((↑(UInt8.toNat (List.getD s_5 (Int.toNat s_17) (0 : UInt8))) : Int) = (45 : Int)) then
                bif !Decidable.decide ((↑(UInt8.toNat (List.getD s_5 (Int.toNat s_17) (0 : UInt8))) : Int) = (46 : Int)) then
                  some (Sum.inr (Sum.inl ()))
                else
                  some (Sum.inl (IntKind.wrap IntKind.i64 (s_17 + (1 : Int))))
              else
                some (Sum.inl (IntKind.wrap IntKind.i64 (s_17 + (1 : Int))))
            else
              some (Sum.inl (IntKind.wrap IntKind.i64 (s_17 + (1 : Int))))
        else
          some (Sum.inl (IntKind.wrap IntKind.i64 (s_17 + (1 : Int)))))
    else none
  else
    some (Sum.inr (Sum.inr ()))

noncomputable def path_Name (s_2 : List UInt8) : Option (Bool) :=
  Option.bind (α := Unit ⊕ Unit) (
    bif Decidable.decide ((↑(List.length s_2) : Int) = (0 : Int)) then
      some (Sum.inl ())
    else
      bif Decidable.decide ((60 : Int) < (↑(List.length s_2) : Int)) then
        some (Sum.inl ())
      else
        some (Sum.inr ())) (Sum.elim (fun t_3 =>
    some (Bool.false)) (fun t_4 =>
    (iter (path_Name_b0 (s_2) ((↑(List.length s_2) : Int))) ((0 : Int))).bind (Sum.elim (fun t_11 =>
      some (Bool.false)) (fun t_12 =>
      some (Bool.true)))))

def stringslite_HasPrefix_res (r : Bool) : AV := (fun (r_33 : Bool) => AV.bool r_33) r

def stringslite_HasPrefix_out (r : Bool) : List AO := (fun (r_33 : Bool) => []) r

noncomputable def stringslite_HasPrefix (s_30 : List UInt8) (prefix_31 : List UInt8) : Option (Bool) :=
  bif Decidable.decide ((↑(List.length prefix_31) : Int) ≤ (↑(List.length s_30) : Int)) then
    if (0 : Int) ≤ (0 : Int) ∧ (0 : Int) ≤ (↑(List.length prefix_31) : Int) ∧ (↑(List.length prefix_31) : Int) ≤ (↑(List.length s_30) : Int) then
      some (Decidable.decide (List.drop (Int.toNat (0 : Int)) (List.take (Int.toNat (↑(List.length prefix_31) : Int)) s_30) = prefix_31))
    else none
  else
    some (Bool.false)

def strings_HasPrefix_res (r : Bool) : AV := (fun (r_36 : Bool) => AV.bool r_36) r

def strings_HasPrefix_out (r : Bool) : List AO := (fun (r_36 : Bool) => []) r

noncomputable def strings_HasPrefix (s_28 : List UInt8) (prefix_29 : List UInt8) : Option (Bool) :=
  (stringslite_HasPrefix (s_28) (prefix_29)).bind fun a_34 =>
    some (a_34)

def path_plain_res (r : Bool) : AV := (fun (r_40 : Bool) => AV.bool r_40) r

def path_plain_out (r : Bool) : List AO := (fun (r_40 : Bool) => []) r

noncomputable def path_plain_b0 (s_23 : List UInt8) (t_24 : Int) (s_41 : Int) : Option ((Int) ⊕ (Unit ⊕ Unit)) :=
  bif Decidable.decide (s_41 < t_24) then
    if (0 : Int) ≤ s_41 ∧ s_41 < (↑(List.length s_23) : Int) then
      bif Decidable.decide ((↑(UInt8.toNat (List.getD s_23 (Int.toNat s_41) (0 : UInt8))) : Int) < (33 : Int)) then
        some (Sum.inr (Sum.inl ()))
      else
        if (0 : Int) ≤ s_41 ∧ s_41 < (↑(List.length s_23) : Int) then
          bif Decidable.decide ((126 : Int) < (↑(UInt8.toNat (List.getD s_23 (Int.toNat s_41) (0 : UInt8))) : Int)) then
            some (Sum.inr (Sum.inl ()))
          else
            some (Sum.inl (IntKind.wrap IntKind.i64 (s_41 + (1 : Int))))
        else none
    else none
  else
    some (Sum.inr (Sum.inr ()))

noncomputable def path_plain (s_22 : List UInt8) : Option (Bool) :=
  (iter (path_plain_b0 (s_22) ((↑(List.length s_22) : Int))) ((0 : Int))).bind (Sum.elim (fun t_26 =>
    some (Bool.false)) (fun t_27 =>
    (strings_HasPrefix (s_22) ([(47 : UInt8)])).bind fun a_37 =>
      some (a_37)))

def strings_Count_res (r : Int) : AV := (fun (r_73 : Int) => AV.int IntKind.i64 r_73) r

def strings_Count_out (r : Int) : List AO := (fun (r_73 : Int) => []) r

noncomputable def strings_Count_b0 (substr_66 : List UInt8) (s_74 : List UInt8 × Int) : Option ((List UInt8 × Int) ⊕ (Int)) :=
  (strings_Index (Prod.fst s_74) (substr_66)).bind fun a_68 =>
    bif Decidable.decide (a_68 = (-1 : Int)) then
      some (Sum.inr (Prod.snd s_74))
    else
      if (0 : Int) ≤ IntKind.wrap IntKind.i64 (a_68 + (↑(List.length substr_66) : Int)) ∧ IntKind.wrap IntKind.i64 (a_68 + (↑(List.length substr_66) : Int)) ≤ (↑(List.length (Prod.fst s_74)) : Int) ∧ (↑(List.length (Prod.fst s_74)) : Int) ≤ (↑(List.length (Prod.fst s_74)) : Int) then
        some (Sum.inl (List.drop (Int.toNat (IntKind.wrap IntKind.i64 (a_68 + (↑(List.length substr_66) : Int)))) (List.take (Int.toNat (↑(List.length (Prod.fst s_74)) : Int)) (Prod.fst s_74)), IntKind.wrap IntKind.i64 (Prod.snd s_74 + (1 : Int))))
      else none

noncomputable def strings_Count (s_63 : List UInt8) (substr_64 : List UInt8) : Option (Int) :=
  bif Decidable.decide ((↑(List.length substr_64) : Int) = (0 : Int)) then
    none
  else
    bif Decidable.decide ((↑(List.length substr_64) : Int) = (1 : Int)) then
      if (0 : Int) ≤ (0 : Int) ∧ (0 : Int) < (↑(List.length substr_64) : Int) then
        some ((↑(List.count (Nat.toUInt8 (Int.toNat (↑(UInt8.toNat (List.getD substr_64 (Int.toNat (0 : Int)) (0 : UInt8))) : Int))) s_63) : Int))
      else none
    else
      (iter (strings_Count_b0 (substr_64)) (s_63, (0 : Int))).bind (fun t_70 =>
        some (t_70))

def strings_genSplit_res (r : List (List UInt8)) : AV := (fun (r_93 : List (List UInt8)) => AV.view (0 : Nat) (0 : Nat) Option.none) r

def strings_genSplit_out (r : List (List UInt8)) : List AO := (fun (r_93 : List (List UInt8)) => [AO.row Ty.str r_93]) r

noncomputable def strings_genSplit_b0 (sep_80 : List UInt8) (sepSave_81 : Int) (n_82 : Int) (s_94 : List UInt8 × Int × List (List UInt8)) : Option ((List UInt8 × Int × List (List UInt8)) ⊕ (List UInt8 × Int × List (List UInt8))) :=
  bif Decidable.decide (Prod.fst (Prod.snd s_94) < n_82) then
    (strings_Index (Prod.fst s_94) (sep_80)).bind fun a_85 =>
      bif Decidable.decide (a_85 < (0 : Int)) then
        some (Sum.inr (Prod.fst s_94, Prod.fst (Prod.snd s_94), Prod.snd (Prod.snd s_94)))
      else
        if (0 : Int) ≤ (0 : Int) ∧ (0 : Int) ≤ IntKind.wrap IntKind.i64 (a_85 + sepSave_81) ∧ IntKind.wrap IntKind.i64 (a_85 + sepSave_81) ≤ (↑(List.length (Prod.fst s_94)) : Int) then
          if (0 : Int) ≤ Prod.fst (Prod.snd s_94) ∧ Prod.fst (Prod.snd s_94) + (↑(0 : Nat) : Int) < (↑(List.length (Prod.snd (Prod.snd s_94))) : Int) then
            if (0 : Nat) + Int.toNat (Prod.fst (Prod.snd s_94)) < List.length (Prod.snd (Prod.snd s_94)) then
              if (0 : Int) ≤ IntKind.wrap IntKind.i64 (a_85 + (↑(List.length sep_80) : Int)) ∧ IntKind.wrap IntKind.i64 (a_85 + (↑(List.length sep_80) : Int)) ≤ (↑(List.length (Prod.fst s_94)) : Int) ∧ (↑(List.length (Prod.fst s_94)) : Int) ≤ (↑(List.length (Prod.fst s_94)) : Int) then
                some (Sum.inl (List.drop (Int.toNat (IntKind.wrap IntKind.i64 (a_85 + (↑(List.length sep_80) : Int)))) (List.take (Int.toNat (↑(List.length (Prod.fst s_94)) : Int)) (Prod.fst s_94)), IntKind.wrap IntKind.i64 (Prod.fst (Prod.snd s_94) + (1 : Int)), List.set (Prod.snd (Prod.snd s_94)) ((0 : Nat) + Int.toNat (Prod.fst (Prod.snd s_94))) (List.drop (Int.toNat (0 : Int)) (List.take (Int.toNat (IntKind.wrap IntKind.i64 (a_85 + sepSave_81))) (Prod.fst s_94)))))
              else none
            else none
          else none
        else none
  else
    some (Sum.inr (Prod.fst s_94, Prod.fst (Prod.snd s_94), Prod.snd (Prod.snd s_94)))

noncomputable def strings_genSplit (s_57 : List UInt8) (sep_58 : List UInt8) (sepSave_59 : Int) (n_60 : Int) : Option (List (List UInt8)) :=
  bif Decidable.decide (n_60 = (0 : Int)) then
    some ([])
  else
    bif Decidable.decide (sep_58 = []) then
      none
    else
      Option.bind (α := Int) (
        bif Decidable.decide (n_60 < (0 : Int)) then
          (strings_Count (s_57) (sep_58)).bind fun a_76 =>
            some (IntKind.wrap IntKind.i64 (a_76 + (1 : Int)))
        else
          some (n_60)) (fun t_78 =>
        if ((0 : Int) ≤ if IntKind.wrap IntKind.i64 ((↑(List.length s_57) : Int) + (1 : Int)) < t_78 then IntKind.wrap IntKind.i64 ((↑(List.length s_57) : Int) + (1 : Int)) else t_78) ∧ ((if IntKind.wrap IntKind.i64 ((↑(List.length s_57) : Int) + (1 : Int)) < t_78 then IntKind.wrap IntKind.i64 ((↑(List.length s_57) : Int) + (1 : Int)) else t_78) ≤ if IntKind.wrap IntKind.i64 ((↑(List.length s_57) : Int) + (1 : Int)) < t_78 then IntKind.wrap IntKind.i64 ((↑(List.length s_57) : Int) + (1 : Int)) else t_78) ∧ (if IntKind.wrap IntKind.i64 ((↑(List.length s_57) : Int) + (1 : Int)) < t_78 then IntKind.wrap IntKind.i64 ((↑(List.length s_57) : Int) + (1 : Int)) else t_78) ≤ (140737488355328 : Int) ∧ ((↑(16 : Nat) : Int) * if IntKind.wrap IntKind.i64 ((↑(List.length s_57) : Int) + (1 : Int)) < t_78 then IntKind.wrap IntKind.i64 ((↑(List.length s_57) : Int) + (1 : Int)) else t_78) ≤ (140737488355328 : Int) then
          (iter (strings_genSplit_b0 (sep_58) (sepSave_59) (IntKind.wrap IntKind.i64 ((if IntKind.wrap IntKind.i64 ((↑(List.length s_57) : Int) + (1 : Int)) < t_78 then IntKind.wrap IntKind.i64 ((↑(List.length s_57) : Int) + (1 : Int)) else t_78) - (1 : Int)))) (s_57, (0 : Int), List.replicate (Int.toNat (if IntKind.wrap IntKind.i64 ((↑(List.length s_57) : Int) + (1 : Int)) < t_78 then IntKind.wrap IntKind.i64 ((↑(List.length s_57) : Int) + (1 : Int)) else t_78)) [])).bind (fun t_89 =>
            if (0 : Int) ≤ Prod.fst (Prod.snd t_89) ∧ Prod.fst (Prod.snd t_89) + (↑(0 : Nat) : Int) < (↑(List.length (Prod.snd (Prod.snd t_89))) : Int) then
              if (0 : Nat) + Int.toNat (Prod.fst (Prod.snd t_89)) < List.length (Prod.snd (Prod.snd t_89)) then
                if (0 : Int) ≤ (0 : Int) ∧ (0 : Int) ≤ IntKind.wrap IntKind.i64 (Prod.fst (Prod.snd t_89) + (1 : Int)) ∧ (↑(0 : Nat) : Int) + IntKind.wrap IntKind.i64 (Prod.fst (Prod.snd t_89) + (1 : Int)) ≤ (↑(List.length (List.set (Prod.snd (Prod.snd t_89)) ((0 : Nat) + Int.toNat (Prod.fst (Prod.snd t_89))) (Prod.fst t_89))) : Int) then
                  some (List.take ((0 : Nat) + Int.toNat (IntKind.wrap IntKind.i64 (Prod.fst (Prod.snd t_89) + (1 : Int)))) (List.set (Prod.snd (Prod.snd t_89)) ((0 : Nat) + Int.toNat (Prod.fst (Prod.snd t_89))) (Prod.fst t_89)))
                else none
              else none
            else none)
        else none)

def strings_Split_res (r : List (List UInt8)) : AV := (fun (r_98 : List (List UInt8)) => AV.view (0 : Nat) (0 : Nat) Option.none) r

def strings_Split_out (r : List (List UInt8)) : List AO := (fun (r_98 : List (List UInt8)) => [AO.row Ty.str r_98]) r

noncomputable def strings_Split (s_45 : List UInt8) (sep_46 : List UInt8) : Option (List (List UInt8)) :=
  (strings_genSplit (s_45) (sep_46) ((0 : Int)) ((-1 : Int))).bind fun a_96 =>
    some (a_96)

def path_Parts_1_res (r : Bool) : AV := (fun (r_106 : Bool) => AV.bool r_106) r

def path_Parts_1_out (r : Bool) : List AO := (fun (r_106 : Bool) => []) r

noncomputable def path_Parts_1 (p_104 : List UInt8) : Option (Bool) :=
  some (!Decidable.decide (p_104 = []))

def path_keep_string__res (r : List (List UInt8)) : AV := (fun (r_117 : List (List UInt8)) => AV.view (0 : Nat) (0 : Nat) Option.none) r

def path_keep_string__out (r : List (List UInt8)) : List AO := (fun (r_117 : List (List UInt8)) => [AO.row Ty.str r_117]) r

noncomputable def path_keep_string__b0 (t_108 : List (List UInt8)) (t_109 : Int) (s_118 : Int × List (List UInt8)) : Option ((Int × List (List UInt8)) ⊕ (List (List UInt8))) :=
  bif Decidable.decide (Prod.fst s_118 < t_109) then
    if (0 : Int) ≤ Prod.fst s_118 ∧ Prod.fst s_118 < (↑(List.length t_108) : Int) then
      (path_Parts_1 (List.getD t_108 (Int.toNat (Prod.fst s_118)) [])).bind fun a_112 =>
        bif a_112 then
          if (List.length (Prod.snd s_118) + List.length ((fun (x : List (Ty.T Ty.str)) => x) [List.getD t_108 (Int.toNat (Prod.fst s_118)) []])) * (16 : Nat) ≤ (17592186044416 : Nat) then
            some (Sum.inl (IntKind.wrap IntKind.i64 (Prod.fst s_118 + (1 : Int)), Prod.snd s_118 ++ [List.getD t_108 (Int.toNat (Prod.fst s_118)) []]))
          else none
        else
          some (Sum.inl (IntKind.wrap IntKind.i64 (Prod.fst s_118 + (1 : Int)), Prod.snd s_118))
    else none
  else
    some (Sum.inr (Prod.snd s_118))

noncomputable def path_keep_string_ (l_100 : List (List UInt8)) : Option (List (List UInt8)) :=
  (iter (path_keep_string__b0 (l_100) ((↑(List.length l_100) : Int))) ((0 : Int), [])).bind (fun t_114 =>
    some (t_114))

def path_Parts_res (r : List (List UInt8)) : AV := (fun (r_122 : List (List UInt8)) => AV.view (0 : Nat) (0 : Nat) Option.none) r

def path_Parts_out (r : List (List UInt8)) : List AO := (fun (r_122 : List (List UInt8)) => [AO.row Ty.str r_122]) r

noncomputable def path_Parts (s_44 : List UInt8) : Option (List (List UInt8)) :=
  (strings_Split (s_44) ([(47 : UInt8)])).bind fun a_99 =>
    (path_keep_string_ (List.drop (0 : Nat) a_99)).bind fun a_120 =>
      some (a_120)

def path_Clean_res (r : List UInt8 × Int) : AV := (fun (r_137 : List UInt8 × Int) => AV.tup [AV.str (Prod.fst r_137), AV.int IntKind.i64 (Prod.snd r_137)]) r

def path_Clean_out (r : List UInt8 × Int) : List AO := (fun (r_137 : List UInt8 × Int) => []) r

noncomputable def path_Clean_b0 (t_127 : Int) (o1_130 : List (List UInt8)) (s_138 : Int × List (List UInt8)) : Option ((Int × List (List UInt8)) ⊕ (List (List UInt8))) :=
  bif Decidable.decide (Prod.fst s_138 < t_127) then
    if (0 : Int) ≤ Prod.fst s_138 ∧ Prod.fst s_138 + (↑(0 : Nat) : Int) < (↑(List.length o1_130) : Int) then
      if (0 : Nat) + Int.toNat (Prod.fst s_138) < List.length o1_130 then
        bif Decidable.decide (List.getD o1_130 ((0 : Nat) + Int.toNat (Prod.fst s_138)) [] = [(46 : UInt8)]) then
          some (Sum.inl (IntKind.wrap IntKind.i64 (Prod.fst s_138 + (1 : Int)), Prod.snd s_138))
        else
          bif Decidable.decide (List.getD o1_130 ((0 : Nat) + Int.toNat (Prod.fst s_138)) [] = [(46 : UInt8), (46 : UInt8)]) then
            if (0 : Int) ≤ (0 : Int) ∧ (0 : Int) ≤ IntKind.wrap IntKind.i64 ((if (1 : Int) > (↑(List.length (Prod.snd s_138)) : Int) - (↑(0 : Nat) : Int) then (1 : Int) else (↑(List.length (Prod.snd s_138)) : Int) - (↑(0 : Nat) : Int)) - (1 : Int)) ∧ (↑(0 : Nat) : Int) + IntKind.wrap IntKind.i64 ((if (1 : Int) > (↑(List.length (Prod.snd s_138)) : Int) - (↑(0 : Nat) : Int) then (1 : Int) else (↑(List.length (Prod.snd s_138)) : Int) - (↑(0 : Nat) : Int)) - (1 : Int)) ≤ (↑(List.length (Prod.snd s_138)) : Int) then
              some (Sum.inl (IntKind.wrap IntKind.i64 (Prod.fst s_138 + (1 : Int)), List.take ((0 : Nat) + Int.toNat (IntKind.wrap IntKind.i64 ((if (1 : Int) > (↑(List.length (Prod.snd s_138)) : Int) - (↑(0 : Nat) : Int) then (1 : Int) else (↑(List.length (Prod.snd s_138)) : Int) - (↑(0 : Nat) : Int)) - (1 : Int)))) (Prod.snd s_138)))
            else none
          else
            if (List.length (Prod.snd s_138) + List.length ((fun (x : List (Ty.T Ty.str)) => x) [List.getD o1_130 ((0 : Nat) + Int.toNat (Prod.fst s_138)) []])) * (16 : Nat) ≤ (17592186044416 : Nat) then
              some (Sum.inl (IntKind.wrap IntKind.i64 (Prod.fst s_138 + (1 : Int)), Prod.snd s_138 ++ [List.getD o1_130 ((0 : Nat) + Int.toNat (Prod.fst s_138)) []]))
            else none
      else none
    else none
  else
    some (Sum.inr (Prod.snd s_138))

noncomputable def path_Clean (s_21 : List UInt8) : Option (List UInt8 × Int) :=
  (path_plain (s_21)).bind fun a_43 =>
    bif !a_43 then
      some ([], (1 : Int))
    else
      (path_Parts (s_21)).bind fun a_123 =>
        (iter (path_Clean_b0 ((↑(List.length a_123) : Int) - (↑(0 : Nat) : Int)) (a_123)) ((0 : Int), [])).bind (fun t_132 =>
          (strings_Join (List.drop (0 : Nat) t_132) ([(47 : UInt8)])).bind fun a_133 =>
            if List.length ((fun (x : List UInt8) => x) [(47 : UInt8)]) + List.length a_133 ≤ (140737488355328 : Nat) then
              bif Decidable.decide ((200 : Int) < (↑(List.length ([(47 : UInt8)] ++ a_133)) : Int)) then
                some ([], (8 : Int))
              else
                some ([(47 : UInt8)] ++ a_133, (0 : Int))
            else none)

def path_Right_res (r : Bool) : AV := (fun (r_142 : Bool) => AV.bool r_142) r

def path_Right_out (r : Bool) : List AO := (fun (r_142 : Bool) => []) r

noncomputable def path_Right (s_20 : List UInt8) : Option (Bool) :=
  (path_Clean (s_20)).bind fun a_140 =>
    bif Decidable.decide (Prod.snd a_140 = (0 : Int)) then
      some (Decidable.decide (Prod.fst a_140 = s_20))
    else
      some (Bool.false)

def status_Trigger_res (r : Bool) : AV := (fun (r_145 : Bool) => AV.bool r_145) r

def status_Trigger_out (r : Bool) : List AO := (fun (r_145 : Bool) => []) r

noncomputable def status_Trigger (s_1 : List UInt8) : Option (Bool) :=
  (path_Name (s_1)).bind fun a_19 =>
    bif a_19 then
      some (Bool.true)
    else
      (path_Right (s_1)).bind fun a_143 =>
        some (a_143)

def bytealg_CompareString_res (r : Int) : AV := (fun (r_160 : Int) => AV.int IntKind.i64 r_160) r

def bytealg_CompareString_out (r : Int) : List AO := (fun (r_160 : Int) => []) r

noncomputable def bytealg_CompareString (a_157 : List UInt8) (b_158 : List UInt8) : Option (Int) :=
  some (cmpB a_157 b_158)

def strings_Compare_res (r : Int) : AV := (fun (r_163 : Int) => AV.int IntKind.i64 r_163) r

def strings_Compare_out (r : Int) : List AO := (fun (r_163 : Int) => []) r

noncomputable def strings_Compare (a_155 : List UInt8) (b_156 : List UInt8) : Option (Int) :=
  (bytealg_CompareString (a_155) (b_156)).bind fun a_161 =>
    some (a_161)

def trigs_compare_res (r : Int) : AV := (fun (r_167 : Int) => AV.int IntKind.i64 r_167) r

def trigs_compare_out (r : Int) : List AO := (fun (r_167 : Int) => []) r

noncomputable def trigs_compare (a_149 : List UInt8) (a_150 : List UInt8) (a_151 : Bool) (b_152 : List UInt8) (b_153 : List UInt8) (b_154 : Bool) : Option (Int) :=
  (strings_Compare (a_149) (b_152)).bind fun a_164 =>
    bif !Decidable.decide (a_164 = (0 : Int)) then
      some (a_164)
    else
      (strings_Compare (a_150) (b_153)).bind fun a_165 =>
        some (a_165)

def cellarerref02_Name_res (r : Bool) : AV := (fun (r_186 : Bool) => AV.bool r_186) r

def cellarerref02_Name_out (r : Bool) : List AO := (fun (r_186 : Bool) => []) r

noncomputable def cellarerref02_Name_b0 (s_171 : List UInt8) (s_187 : Int) : Option ((Int) ⊕ (Unit ⊕ Unit)) :=
  bif Decidable.decide (s_187 < (↑(List.length s_171) : Int)) then
    if (0 : Int) ≤ s_187 ∧ s_187 < (↑(List.length s_171) : Int) then
      Option.bind (α := Bool) (
        bif Decidable.decide ((97 : Int) ≤ (↑(UInt8.toNat (List.getD s_171 (Int.toNat s_187) (0 : UInt8))) : Int)) then
          some (Decidable.decide ((↑(UInt8.toNat (List.getD s_171 (Int.toNat s_187) (0 : UInt8))) : Int) ≤ (122 : Int)))
        else
          some (Bool.false)) (fun t_174 =>
        Option.bind (α := Bool) (
          bif Decidable.decide ((48 : Int) ≤ (↑(UInt8.toNat (List.getD s_171 (Int.toNat s_187) (0 : UInt8))) : Int)) then
            some (Decidable.decide ((↑(UInt8.toNat (List.getD s_171 (Int.toNat s_187) (0 : UInt8))) : Int) ≤ (57 : Int)))
          else
            some (Bool.false)) (fun t_176 =>
          Option.bind (α := Bool) (
            bif Decidable.decide ((↑(UInt8.toNat (List.getD s_171 (Int.toNat s_187) (0 : UInt8))) : Int) = (43 : Int)) then
              some (Bool.true)
            else
              bif Decidable.decide ((↑(UInt8.toNat (List.getD s_171 (Int.toNat s_187) (0 : UInt8))) : Int) = (45 : Int)) then
                some (Bool.true)
              else
                some (Decidable.decide ((↑(UInt8.toNat (List.getD s_171 (Int.toNat s_187) (0 : UInt8))) : Int) = (46 : Int)))) (fun t_178 =>
            bif !t_174 then
              bif !t_176 then
                bif !t_178 then
                  some (Sum.inr (Sum.inl ()))
                else
                  bif t_178 then
                    bif Decidable.decide (s_187 = (0 : Int)) then
                      some (Sum.inr (Sum.inl ()))
                    else
                      some (Sum.inl (IntKind.wrap IntKind.i64 (s_187 + (1 : Int))))
                  else
                    some (Sum.inl (IntKind.wrap IntKind.i64 (s_187 + (1 : Int))))
              else
                bif t_178 then
                  bif Decidable.decide (s_187 = (0 : Int)) then
                    some (Sum.inr (Sum.inl ()))
                  else
                    some (Sum.inl (IntKind.wrap IntKind.i64 (s_187 + (1 : Int))))
                else
                  some (Sum.inl (IntKind.wrap IntKind.i64 (s_187 + (1 : Int))))
            else
              bif t_178 then
                bif Decidable.decide (s_187 = (0 : Int)) then
                  some (Sum.inr (Sum.inl ()))
                else
                  some (Sum.inl (IntKind.wrap IntKind.i64 (s_187 + (1 : Int))))
              else
                some (Sum.inl (IntKind.wrap IntKind.i64 (s_187 + (1 : Int)))))))
    else none
  else
    some (Sum.inr (Sum.inr ()))

noncomputable def cellarerref02_Name (s_170 : List UInt8) : Option (Bool) :=
  (iter (cellarerref02_Name_b0 (s_170)) ((0 : Int))).bind (Sum.elim (fun t_182 =>
    some (Bool.false)) (fun t_183 =>
    bif Decidable.decide ((1 : Int) ≤ (↑(List.length s_170) : Int)) then
      some (Decidable.decide ((↑(List.length s_170) : Int) ≤ (60 : Int)))
    else
      some (Bool.false)))

def cellarerref02_Parts_res (r : List (List UInt8)) : AV := (fun (r_211 : List (List UInt8)) => AV.view (0 : Nat) (0 : Nat) Option.none) r

def cellarerref02_Parts_out (r : List (List UInt8)) : List AO := (fun (r_211 : List (List UInt8)) => [AO.row Ty.str r_211]) r

noncomputable def cellarerref02_Parts_b0 (s_202 : List UInt8) (s_212 : List UInt8 × Int × List (List UInt8)) : Option ((List UInt8 × Int × List (List UInt8)) ⊕ (List UInt8 × List (List UInt8))) :=
  bif Decidable.decide (Prod.fst (Prod.snd s_212) < (↑(List.length s_202) : Int)) then
    if (0 : Int) ≤ Prod.fst (Prod.snd s_212) ∧ Prod.fst (Prod.snd s_212) < (↑(List.length s_202) : Int) then
      bif !Decidable.decide ((↑(UInt8.toNat (List.getD s_202 (Int.toNat (Prod.fst (Prod.snd s_212))) (0 : UInt8))) : Int) = (47 : Int)) then
        if (0 : Int) ≤ Prod.fst (Prod.snd s_212) ∧ Prod.fst (Prod.snd s_212) ≤ IntKind.wrap IntKind.i64 (Prod.fst (Prod.snd s_212) + (1 : Int)) ∧ IntKind.wrap IntKind.i64 (Prod.fst (Prod.snd s_212) + (1 : Int)) ≤ (↑(List.length s_202) : Int) then
          if List.length (Prod.fst s_212) + List.length (List.drop (Int.toNat (Prod.fst (Prod.snd s_212))) (List.take (Int.toNat (IntKind.wrap IntKind.i64 (Prod.fst (Prod.snd s_212) + (1 : Int)))) s_202)) ≤ (140737488355328 : Nat) then
            some (Sum.inl (Prod.fst s_212 ++ List.drop (Int.toNat (Prod.fst (Prod.snd s_212))) (List.take (Int.toNat (IntKind.wrap IntKind.i64 (Prod.fst (Prod.snd s_212) + (1 : Int)))) s_202), IntKind.wrap IntKind.i64 (Prod.fst (Prod.snd s_212) + (1 : Int)), Prod.snd (Prod.snd s_212)))
          else none
        else none
      else
        bif !Decidable.decide (Prod.fst s_212 = []) then
          if (List.length (Prod.snd (Prod.snd s_212)) + List.length ((fun (x : List (Ty.T Ty.str)) => x) [Prod.fst s_212])) * (16 : Nat) ≤ (17592186044416 : Nat) then
            some (Sum.inl ([], IntKind.wrap IntKind.i64 (Prod.fst (Prod.snd s_212) + (1 : Int)), Prod.snd (Prod.snd s_212) ++ [Prod.fst s_212]))
          else none
        else
          some (Sum.inl ([], IntKind.wrap IntKind.i64 (Prod.fst (Prod.snd s_212) + (1 : Int)), Prod.snd (Prod.snd s_212)))
    else none
  else
    some (Sum.inr (Prod.fst s_212, Prod.snd (Prod.snd s_212)))

noncomputable def cellarerref02_Parts (s_198 : List UInt8) : Option (List (List UInt8)) :=
  (iter (cellarerref02_Parts_b0 (s_198)) ([], (0 : Int), [])).bind (fun t_208 =>
    bif !Decidable.decide (Prod.fst t_208 = []) then
      if (List.length (Prod.snd t_208) + List.length ((fun (x : List (Ty.T Ty.str)) => x) [Prod.fst t_208])) * (16 : Nat) ≤ (17592186044416 : Nat) then
        some (Prod.snd t_208 ++ [Prod.fst t_208])
      else none
    else
      some (Prod.snd t_208))

def cellarerref02_Joined_res (r : List UInt8) : AV := (fun (r_230 : List UInt8) => AV.str r_230) r

def cellarerref02_Joined_out (r : List UInt8) : List AO := (fun (r_230 : List UInt8) => []) r

noncomputable def cellarerref02_Joined_b0 (l_223 : List (List UInt8)) (s_231 : List UInt8 × Int) : Option ((List UInt8 × Int) ⊕ (List UInt8)) :=
  bif Decidable.decide (Prod.snd s_231 < (↑(List.length l_223) : Int)) then
    if List.length (Prod.fst s_231) + List.length ((fun (x : List UInt8) => x) [(47 : UInt8)]) ≤ (140737488355328 : Nat) then
      if (0 : Int) ≤ Prod.snd s_231 ∧ Prod.snd s_231 < (↑(List.length l_223) : Int) then
        if List.length (Prod.fst s_231 ++ [(47 : UInt8)]) + List.length (List.getD l_223 (Int.toNat (Prod.snd s_231)) []) ≤ (140737488355328 : Nat) then
          some (Sum.inl (Prod.fst s_231 ++ [(47 : UInt8)] ++ List.getD l_223 (Int.toNat (Prod.snd s_231)) [], IntKind.wrap IntKind.i64 (Prod.snd s_231 + (1 : Int))))
        else none
      else none
    else none
  else
    some (Sum.inr (Prod.fst s_231))

noncomputable def cellarerref02_Joined (l_222 : List (List UInt8)) : Option (List UInt8) :=
  bif Decidable.decide ((↑(List.length l_222) : Int) = (0 : Int)) then
    some ([(47 : UInt8)])
  else
    (iter (cellarerref02_Joined_b0 (l_222)) ([], (0 : Int))).bind (fun t_227 =>
      some (t_227))

def cellarerref02_Clean_res (r : List UInt8 × Int) : AV := (fun (r_239 : List UInt8 × Int) => AV.tup [AV.str (Prod.fst r_239), AV.int IntKind.i64 (Prod.snd r_239)]) r

def cellarerref02_Clean_out (r : List UInt8 × Int) : List AO := (fun (r_239 : List UInt8 × Int) => []) r

noncomputable def cellarerref02_Clean_b0 (s_194 : List UInt8) (s_240 : Int) : Option ((Int) ⊕ (Unit ⊕ Unit)) :=
  bif Decidable.decide (s_240 < (↑(List.length s_194) : Int)) then
    if (0 : Int) ≤ s_240 ∧ s_240 < (↑(List.length s_194) : Int) then
      bif Decidable.decide ((↑(UInt8.toNat (List.getD s_194 (Int.toNat s_240) (0 : UInt8))) : Int) < (33 : Int)) then
        some (Sum.inr (Sum.inl ()))
      else
        if (0 : Int) ≤ s_240 ∧ s_240 < (↑(List.length s_194) : Int) then
          bif Decidable.decide ((126 : Int) < (↑(UInt8.toNat (List.getD s_194 (Int.toNat s_240) (0 : UInt8))) : Int)) then
            some (Sum.inr (Sum.inl ()))
          else
            some (Sum.inl (IntKind.wrap IntKind.i64 (s_240 + (1 : Int))))
        else none
    else none
  else
    some (Sum.inr (Sum.inr ()))

noncomputable def cellarerref02_Clean_b1 (o0_218 : List (List UInt8)) (s_241 : Int × List (List UInt8)) : Option ((Int × List (List UInt8)) ⊕ (List (List UInt8))) :=
  bif Decidable.decide (Prod.fst s_241 < (↑(List.length o0_218) : Int) - (↑(0 : Nat) : Int)) then
    if (0 : Int) ≤ Prod.fst s_241 ∧ Prod.fst s_241 + (↑(0 : Nat) : Int) < (↑(List.length o0_218) : Int) then
      if (0 : Nat) + Int.toNat (Prod.fst s_241) < List.length o0_218 then
        bif Decidable.decide (List.getD o0_218 ((0 : Nat) + Int.toNat (Prod.fst s_241)) [] = [(46 : UInt8), (46 : UInt8)]) then
          bif Decidable.decide ((0 : Int) < (↑(List.length (Prod.snd s_241)) : Int) - (↑(0 : Nat) : Int)) then
            if (0 : Int) ≤ (0 : Int) ∧ (0 : Int) ≤ IntKind.wrap IntKind.i64 ((↑(List.length (Prod.snd s_241)) : Int) - (↑(0 : Nat) : Int) - (1 : Int)) ∧ (↑(0 : Nat) : Int) + IntKind.wrap IntKind.i64 ((↑(List.length (Prod.snd s_241)) : Int) - (↑(0 : Nat) : Int) - (1 : Int)) ≤ (↑(List.length (Prod.snd s_241)) : Int) then
              some (Sum.inl (IntKind.wrap IntKind.i64 (Prod.fst s_241 + (1 : Int)), List.take ((0 : Nat) + Int.toNat (IntKind.wrap IntKind.i64 ((↑(List.length (Prod.snd s_241)) : Int) - (↑(0 : Nat) : Int) - (1 : Int)))) (Prod.snd s_241)))
            else none
          else
            some (Sum.inl (IntKind.wrap IntKind.i64 (Prod.fst s_241 + (1 : Int)), Prod.snd s_241))
        else
          if (0 : Int) ≤ Prod.fst s_241 ∧ Prod.fst s_241 + (↑(0 : Nat) : Int) < (↑(List.length o0_218) : Int) then
            if (0 : Nat) + Int.toNat (Prod.fst s_241) < List.length o0_218 then
              bif !Decidable.decide (List.getD o0_218 ((0 : Nat) + Int.toNat (Prod.fst s_241)) [] = [(46 : UInt8)]) then
                if (0 : Int) ≤ Prod.fst s_241 ∧ Prod.fst s_241 + (↑(0 : Nat) : Int) < (↑(List.length o0_218) : Int) then
                  if (0 : Nat) + Int.toNat (Prod.fst s_241) < List.length o0_218 then
                    if (List.length (Prod.snd s_241) + List.length ((fun (x : List (Ty.T Ty.str)) => x) [List.getD o0_218 ((0 : Nat) + Int.toNat (Prod.fst s_241)) []])) * (16 : Nat) ≤ (17592186044416 : Nat) then
                      some (Sum.inl (IntKind.wrap IntKind.i64 (Prod.fst s_241 + (1 : Int)), Prod.snd s_241 ++ [List.getD o0_218 ((0 : Nat) + Int.toNat (Prod.fst s_241)) []]))
                    else none
                  else none
                else none
              else
                some (Sum.inl (IntKind.wrap IntKind.i64 (Prod.fst s_241 + (1 : Int)), Prod.snd s_241))
            else none
          else none
      else none
    else none
  else
    some (Sum.inr (Prod.snd s_241))

noncomputable def cellarerref02_Clean (s_191 : List UInt8) : Option (List UInt8 × Int) :=
  Option.bind (α := Unit ⊕ Unit) (
    bif Decidable.decide ((↑(List.length s_191) : Int) = (0 : Int)) then
      some (Sum.inl ())
    else
      if (0 : Int) ≤ (0 : Int) ∧ (0 : Int) < (↑(List.length s_191) : Int) then
        bif !Decidable.decide ((↑(UInt8.toNat (List.getD s_191 (Int.toNat (0 : Int)) (0 : UInt8))) : Int) = (47 : Int)) then
          some (Sum.inl ())
        else
          some (Sum.inr ())
      else none) (Sum.elim (fun t_192 =>
    some ([], (1 : Int))) (fun t_193 =>
    (iter (cellarerref02_Clean_b0 (s_191)) ((0 : Int))).bind (Sum.elim (fun t_196 =>
      some ([], (1 : Int))) (fun t_197 =>
      (cellarerref02_Parts (s_191)).bind fun a_214 =>
        (iter (cellarerref02_Clean_b1 (a_214)) ((0 : Int), [])).bind (fun t_221 =>
          (cellarerref02_Joined (List.drop (0 : Nat) t_221)).bind fun a_233 =>
            bif Decidable.decide ((200 : Int) < (↑(List.length a_233) : Int)) then
              some ([], (8 : Int))
            else
              some (a_233, (0 : Int)))))))

def cellarerref02_Right_res (r : Bool) : AV := (fun (r_246 : Bool) => AV.bool r_246) r

def cellarerref02_Right_out (r : Bool) : List AO := (fun (r_246 : Bool) => []) r

noncomputable def cellarerref02_Right (s_190 : List UInt8) : Option (Bool) :=
  (cellarerref02_Clean (s_190)).bind fun a_244 =>
    bif Decidable.decide (Prod.snd a_244 = (0 : Int)) then
      some (Decidable.decide (Prod.fst a_244 = s_190))
    else
      some (Bool.false)

def cellarerref08_Trigger_res (r : Bool) : AV := (fun (r_249 : Bool) => AV.bool r_249) r

def cellarerref08_Trigger_out (r : Bool) : List AO := (fun (r_249 : Bool) => []) r

noncomputable def cellarerref08_Trigger (s_169 : List UInt8) : Option (Bool) :=
  (cellarerref02_Name (s_169)).bind fun a_189 =>
    bif a_189 then
      some (Bool.true)
    else
      (cellarerref02_Right (s_169)).bind fun a_247 =>
        some (a_247)

def cellarerref12_less_res (r : Bool) : AV := (fun (r_260 : Bool) => AV.bool r_260) r

def cellarerref12_less_out (r : Bool) : List AO := (fun (r_260 : Bool) => []) r

noncomputable def cellarerref12_less (a_253 : List UInt8) (a_254 : List UInt8) (a_255 : Bool) (b_256 : List UInt8) (b_257 : List UInt8) (b_258 : Bool) : Option (Bool) :=
  bif Go.Op.bytesLess a_253 b_256 then
    some (Bool.true)
  else
    bif Decidable.decide (a_253 = b_256) then
      some (Go.Op.bytesLess a_254 b_257)
    else
      some (Bool.false)

def cellarerlaw12_Few_res (r : Bool) : AV := (fun (r_269 : Bool) => AV.bool r_269) r

def cellarerlaw12_Few_out (r : Bool) : List AO := (fun (r_269 : Bool) => []) r

noncomputable def cellarerlaw12_Few_b0 (l_263 : List (List UInt8 × List UInt8 × Bool)) (s_270 : Int) : Option ((Int) ⊕ (Unit ⊕ Unit)) :=
  bif Decidable.decide (s_270 < (↑(List.length l_263) : Int)) then
    if (0 : Int) ≤ s_270 ∧ s_270 < (↑(List.length l_263) : Int) then
      bif Decidable.decide ((300 : Int) < (↑(List.length (Prod.fst (List.getD l_263 (Int.toNat s_270) ([], [], Bool.false)))) : Int)) then
        some (Sum.inr (Sum.inl ()))
      else
        if (0 : Int) ≤ s_270 ∧ s_270 < (↑(List.length l_263) : Int) then
          bif Decidable.decide ((300 : Int) < (↑(List.length (Prod.fst (Prod.snd (List.getD l_263 (Int.toNat s_270) ([], [], Bool.false))))) : Int)) then
            some (Sum.inr (Sum.inl ()))
          else
            some (Sum.inl (IntKind.wrap IntKind.i64 (s_270 + (1 : Int))))
        else none
    else none
  else
    some (Sum.inr (Sum.inr ()))

noncomputable def cellarerlaw12_Few (l_262 : List (List UInt8 × List UInt8 × Bool)) : Option (Bool) :=
  bif Decidable.decide ((70 : Int) < (↑(List.length l_262) : Int)) then
    some (Bool.false)
  else
    (iter (cellarerlaw12_Few_b0 (l_262)) ((0 : Int))).bind (Sum.elim (fun t_265 =>
      some (Bool.false)) (fun t_266 =>
      some (Bool.true)))

def trigs_Check_res (r : Int) : AV := (fun (r_286 : Int) => AV.int IntKind.i64 r_286) r

def trigs_Check_out (r : Int) : List AO := (fun (r_286 : Int) => []) r

noncomputable def trigs_Check_b0 (l_275 : List (List UInt8 × List UInt8 × Bool)) (t_276 : List (List UInt8 × List UInt8 × Bool)) (t_277 : Int) (s_287 : Int) : Option ((Int) ⊕ (Unit ⊕ Unit)) :=
  bif Decidable.decide (s_287 < t_277) then
    if (0 : Int) ≤ s_287 ∧ s_287 < (↑(List.length t_276) : Int) then
      (status_Trigger (Prod.fst (List.getD t_276 (Int.toNat s_287) ([], [], Bool.false)))).bind fun a_279 =>
        bif !a_279 then
          some (Sum.inr (Sum.inl ()))
        else
          (path_Name (Prod.fst (Prod.snd (List.getD t_276 (Int.toNat s_287) ([], [], Bool.false))))).bind fun a_280 =>
            bif !a_280 then
              some (Sum.inr (Sum.inl ()))
            else
              bif Decidable.decide ((0 : Int) < s_287) then
                if (0 : Int) ≤ IntKind.wrap IntKind.i64 (s_287 - (1 : Int)) ∧ IntKind.wrap IntKind.i64 (s_287 - (1 : Int)) < (↑(List.length l_275) : Int) then
                  (trigs_compare (Prod.fst (List.getD l_275 (Int.toNat (IntKind.wrap IntKind.i64 (s_287 - (1 : Int)))) ([], [], Bool.false))) (Prod.fst (Prod.snd (List.getD l_275 (Int.toNat (IntKind.wrap IntKind.i64 (s_287 - (1 : Int)))) ([], [], Bool.false)))) (Prod.snd (Prod.snd (List.getD l_275 (Int.toNat (IntKind.wrap IntKind.i64 (s_287 - (1 : Int)))) ([], [], Bool.false)))) (Prod.fst (List.getD t_276 (Int.toNat s_287) ([], [], Bool.false))) (Prod.fst (Prod.snd (List.getD t_276 (Int.toNat s_287) ([], [], Bool.false)))) (Prod.snd (Prod.snd (List.getD t_276 (Int.toNat s_287) ([], [], Bool.false))))).bind fun a_281 =>
                    bif Decidable.decide ((0 : Int) ≤ a_281) then
                      some (Sum.inr (Sum.inl ()))
                    else
                      some (Sum.inl (IntKind.wrap IntKind.i64 (s_287 + (1 : Int))))
                else none
              else
                some (Sum.inl (IntKind.wrap IntKind.i64 (s_287 + (1 : Int))))
    else none
  else
    some (Sum.inr (Sum.inr ()))

noncomputable def trigs_Check (l_274 : List (List UInt8 × List UInt8 × Bool)) : Option (Int) :=
  bif Decidable.decide ((64 : Int) < (↑(List.length l_274) : Int)) then
    some ((22 : Int))
  else
    (iter (trigs_Check_b0 (l_274) (l_274) ((↑(List.length l_274) : Int))) ((0 : Int))).bind (Sum.elim (fun t_282 =>
      some ((1 : Int))) (fun t_283 =>
      some ((0 : Int))))

def trigs_Print_res (r : List UInt8 × Int) : AV := (fun (r_299 : List UInt8 × Int) => AV.tup [AV.str (Prod.fst r_299), AV.int IntKind.i64 (Prod.snd r_299)]) r

def trigs_Print_out (r : List UInt8 × Int) : List AO := (fun (r_299 : List UInt8 × Int) => []) r

noncomputable def trigs_Print_b0 (t_291 : List (List UInt8 × List UInt8 × Bool)) (t_292 : Int) (s_300 : List UInt8 × Int) : Option ((List UInt8 × Int) ⊕ (List UInt8)) :=
  bif Decidable.decide (Prod.snd s_300 < t_292) then
    if (0 : Int) ≤ Prod.snd s_300 ∧ Prod.snd s_300 < (↑(List.length t_291) : Int) then
      if List.length (Prod.fst (List.getD t_291 (Int.toNat (Prod.snd s_300)) ([], [], Bool.false))) + List.length ((fun (x : List UInt8) => x) [(32 : UInt8)]) ≤ (140737488355328 : Nat) then
        if List.length (Prod.fst (List.getD t_291 (Int.toNat (Prod.snd s_300)) ([], [], Bool.false)) ++ [(32 : UInt8)]) + List.length (Prod.fst (Prod.snd (List.getD t_291 (Int.toNat (Prod.snd s_300)) ([], [], Bool.false)))) ≤ (140737488355328 : Nat) then
          if List.length (Prod.fst s_300) + List.length (Prod.fst (List.getD t_291 (Int.toNat (Prod.snd s_300)) ([], [], Bool.false)) ++ [(32 : UInt8)] ++ Prod.fst (Prod.snd (List.getD t_291 (Int.toNat (Prod.snd s_300)) ([], [], Bool.false)))) ≤ (140737488355328 : Nat) then
            bif Prod.snd (Prod.snd (List.getD t_291 (Int.toNat (Prod.snd s_300)) ([], [], Bool.false))) then
              if List.length (Prod.fst s_300 ++ (Prod.fst (List.getD t_291 (Int.toNat (Prod.snd s_300)) ([], [], Bool.false)) ++ [(32 : UInt8)] ++ Prod.fst (Prod.snd (List.getD t_291 (Int.toNat (Prod.snd s_300)) ([], [], Bool.false))))) + List.length ((fun (x : List UInt8) => x) [(47 : UInt8), (110 : UInt8), (111 : UInt8), (97 : UInt8), (119 : UInt8), (97 : UInt8), (105 : UInt8), (116 : UInt8)]) ≤ (140737488355328 : Nat) then
                if List.length (Prod.fst s_300 ++ (Prod.fst (List.getD t_291 (Int.toNat (Prod.snd s_300)) ([], [], Bool.false)) ++ [(32 : UInt8)] ++ Prod.fst (Prod.snd (List.getD t_291 (Int.toNat (Prod.snd s_300)) ([], [], Bool.false)))) ++ [(47 : UInt8), (110 : UInt8), (111 : UInt8), (97 : UInt8), (119 : UInt8), (97 : UInt8), (105 : UInt8), (116 : UInt8)]) + List.length ((fun (x : List UInt8) => x) [(10 : UInt8)]) ≤ (140737488355328 : Nat) then
                  some (Sum.inl (Prod.fst s_300 ++ (Prod.fst (List.getD t_291 (Int.toNat (Prod.snd s_300)) ([], [], Bool.false)) ++ [(32 : UInt8)] ++ Prod.fst (Prod.snd (List.getD t_291 (Int.toNat (Prod.snd s_300)) ([], [], Bool.false)))) ++ [(47 : UInt8), (110 : UInt8), (111 : UInt8), (97 : UInt8), (119 : UInt8), (97 : UInt8), (105 : UInt8), (116 : UInt8)] ++ [(10 : UInt8)], IntKind.wrap IntKind.i64 (Prod.snd s_300 + (1 : Int))))
                else none
              else none
            else
              if List.length (Prod.fst s_300 ++ (Prod.fst (List.getD t_291 (Int.toNat (Prod.snd s_300)) ([], [], Bool.false)) ++ [(32 : UInt8)] ++ Prod.fst (Prod.snd (List.getD t_291 (Int.toNat (Prod.snd s_300)) ([], [], Bool.false))))) + List.length ((fun (x : List UInt8) => x) [(10 : UInt8)]) ≤ (140737488355328 : Nat) then
                some (Sum.inl (Prod.fst s_300 ++ (Prod.fst (List.getD t_291 (Int.toNat (Prod.snd s_300)) ([], [], Bool.false)) ++ [(32 : UInt8)] ++ Prod.fst (Prod.snd (List.getD t_291 (Int.toNat (Prod.snd s_300)) ([], [], Bool.false)))) ++ [(10 : UInt8)], IntKind.wrap IntKind.i64 (Prod.snd s_300 + (1 : Int))))
              else none
          else none
        else none
      else none
    else none
  else
    some (Sum.inr (Prod.fst s_300))

noncomputable def trigs_Print (l_273 : List (List UInt8 × List UInt8 × Bool)) : Option (List UInt8 × Int) :=
  (trigs_Check (l_273)).bind fun a_289 =>
    bif !Decidable.decide (a_289 = (0 : Int)) then
      some ([], a_289)
    else
      (iter (trigs_Print_b0 (l_273) ((↑(List.length l_273) : Int))) ([], (0 : Int))).bind (fun t_295 =>
        some (t_295, (0 : Int)))

def cellarerref12_Check_res (r : Int) : AV := (fun (r_314 : Int) => AV.int IntKind.i64 r_314) r

def cellarerref12_Check_out (r : Int) : List AO := (fun (r_314 : Int) => []) r

noncomputable def cellarerref12_Check_b0 (l_305 : List (List UInt8 × List UInt8 × Bool)) (s_315 : Int) : Option ((Int) ⊕ (Unit ⊕ Unit)) :=
  bif Decidable.decide (s_315 < (↑(List.length l_305) : Int)) then
    if (0 : Int) ≤ s_315 ∧ s_315 < (↑(List.length l_305) : Int) then
      (cellarerref08_Trigger (Prod.fst (List.getD l_305 (Int.toNat s_315) ([], [], Bool.false)))).bind fun a_307 =>
        bif !a_307 then
          some (Sum.inr (Sum.inl ()))
        else
          if (0 : Int) ≤ s_315 ∧ s_315 < (↑(List.length l_305) : Int) then
            (cellarerref02_Name (Prod.fst (Prod.snd (List.getD l_305 (Int.toNat s_315) ([], [], Bool.false))))).bind fun a_308 =>
              bif !a_308 then
                some (Sum.inr (Sum.inl ()))
              else
                bif Decidable.decide ((0 : Int) < s_315) then
                  if (0 : Int) ≤ IntKind.wrap IntKind.i64 (s_315 - (1 : Int)) ∧ IntKind.wrap IntKind.i64 (s_315 - (1 : Int)) < (↑(List.length l_305) : Int) then
                    if (0 : Int) ≤ s_315 ∧ s_315 < (↑(List.length l_305) : Int) then
                      (cellarerref12_less (Prod.fst (List.getD l_305 (Int.toNat (IntKind.wrap IntKind.i64 (s_315 - (1 : Int)))) ([], [], Bool.false))) (Prod.fst (Prod.snd (List.getD l_305 (Int.toNat (IntKind.wrap IntKind.i64 (s_315 - (1 : Int)))) ([], [], Bool.false)))) (Prod.snd (Prod.snd (List.getD l_305 (Int.toNat (IntKind.wrap IntKind.i64 (s_315 - (1 : Int)))) ([], [], Bool.false)))) (Prod.fst (List.getD l_305 (Int.toNat s_315) ([], [], Bool.false))) (Prod.fst (Prod.snd (List.getD l_305 (Int.toNat s_315) ([], [], Bool.false)))) (Prod.snd (Prod.snd (List.getD l_305 (Int.toNat s_315) ([], [], Bool.false))))).bind fun a_309 =>
                        bif !a_309 then
                          some (Sum.inr (Sum.inl ()))
                        else
                          some (Sum.inl (IntKind.wrap IntKind.i64 (s_315 + (1 : Int))))
                    else none
                  else none
                else
                  some (Sum.inl (IntKind.wrap IntKind.i64 (s_315 + (1 : Int))))
          else none
    else none
  else
    some (Sum.inr (Sum.inr ()))

noncomputable def cellarerref12_Check (l_304 : List (List UInt8 × List UInt8 × Bool)) : Option (Int) :=
  bif Decidable.decide ((64 : Int) < (↑(List.length l_304) : Int)) then
    some ((22 : Int))
  else
    (iter (cellarerref12_Check_b0 (l_304)) ((0 : Int))).bind (Sum.elim (fun t_310 =>
      some ((1 : Int))) (fun t_311 =>
      some ((0 : Int))))

def cellarerref12_Print_res (r : List UInt8 × Int) : AV := (fun (r_326 : List UInt8 × Int) => AV.tup [AV.str (Prod.fst r_326), AV.int IntKind.i64 (Prod.snd r_326)]) r

def cellarerref12_Print_out (r : List UInt8 × Int) : List AO := (fun (r_326 : List UInt8 × Int) => []) r

noncomputable def cellarerref12_Print_b0 (l_318 : List (List UInt8 × List UInt8 × Bool)) (s_327 : List UInt8 × Int) : Option ((List UInt8 × Int) ⊕ (List UInt8)) :=
  bif Decidable.decide (Prod.snd s_327 < (↑(List.length l_318) : Int)) then
    if (0 : Int) ≤ Prod.snd s_327 ∧ Prod.snd s_327 < (↑(List.length l_318) : Int) then
      if List.length (Prod.fst s_327) + List.length (Prod.fst (List.getD l_318 (Int.toNat (Prod.snd s_327)) ([], [], Bool.false))) ≤ (140737488355328 : Nat) then
        if List.length (Prod.fst s_327 ++ Prod.fst (List.getD l_318 (Int.toNat (Prod.snd s_327)) ([], [], Bool.false))) + List.length ((fun (x : List UInt8) => x) [(32 : UInt8)]) ≤ (140737488355328 : Nat) then
          if (0 : Int) ≤ Prod.snd s_327 ∧ Prod.snd s_327 < (↑(List.length l_318) : Int) then
            if List.length (Prod.fst s_327 ++ Prod.fst (List.getD l_318 (Int.toNat (Prod.snd s_327)) ([], [], Bool.false)) ++ [(32 : UInt8)]) + List.length (Prod.fst (Prod.snd (List.getD l_318 (Int.toNat (Prod.snd s_327)) ([], [], Bool.false)))) ≤ (140737488355328 : Nat) then
              if (0 : Int) ≤ Prod.snd s_327 ∧ Prod.snd s_327 < (↑(List.length l_318) : Int) then
                bif Prod.snd (Prod.snd (List.getD l_318 (Int.toNat (Prod.snd s_327)) ([], [], Bool.false))) then
                  if List.length (Prod.fst s_327 ++ Prod.fst (List.getD l_318 (Int.toNat (Prod.snd s_327)) ([], [], Bool.false)) ++ [(32 : UInt8)] ++ Prod.fst (Prod.snd (List.getD l_318 (Int.toNat (Prod.snd s_327)) ([], [], Bool.false)))) + List.length ((fun (x : List UInt8) => x) [(47 : UInt8), (110 : UInt8), (111 : UInt8), (97 : UInt8), (119 : UInt8), (97 : UInt8), (105 : UInt8), (116 : UInt8)]) ≤ (140737488355328 : Nat) then
                    if List.length (Prod.fst s_327 ++ Prod.fst (List.getD l_318 (Int.toNat (Prod.snd s_327)) ([], [], Bool.false)) ++ [(32 : UInt8)] ++ Prod.fst (Prod.snd (List.getD l_318 (Int.toNat (Prod.snd s_327)) ([], [], Bool.false))) ++ [(47 : UInt8), (110 : UInt8), (111 : UInt8), (97 : UInt8), (119 : UInt8), (97 : UInt8), (105 : UInt8), (116 : UInt8)]) + List.length ((fun (x : List UInt8) => x) [(10 : UInt8)]) ≤ (140737488355328 : Nat) then
                      some (Sum.inl (Prod.fst s_327 ++ Prod.fst (List.getD l_318 (Int.toNat (Prod.snd s_327)) ([], [], Bool.false)) ++ [(32 : UInt8)] ++ Prod.fst (Prod.snd (List.getD l_318 (Int.toNat (Prod.snd s_327)) ([], [], Bool.false))) ++ [(47 : UInt8), (110 : UInt8), (111 : UInt8), (97 : UInt8), (119 : UInt8), (97 : UInt8), (105 : UInt8), (116 : UInt8)] ++ [(10 : UInt8)], IntKind.wrap IntKind.i64 (Prod.snd s_327 + (1 : Int))))
                    else none
                  else none
                else
                  if List.length (Prod.fst s_327 ++ Prod.fst (List.getD l_318 (Int.toNat (Prod.snd s_327)) ([], [], Bool.false)) ++ [(32 : UInt8)] ++ Prod.fst (Prod.snd (List.getD l_318 (Int.toNat (Prod.snd s_327)) ([], [], Bool.false)))) + List.length ((fun (x : List UInt8) => x) [(10 : UInt8)]) ≤ (140737488355328 : Nat) then
                    some (Sum.inl (Prod.fst s_327 ++ Prod.fst (List.getD l_318 (Int.toNat (Prod.snd s_327)) ([], [], Bool.false)) ++ [(32 : UInt8)] ++ Prod.fst (Prod.snd (List.getD l_318 (Int.toNat (Prod.snd s_327)) ([], [], Bool.false))) ++ [(10 : UInt8)], IntKind.wrap IntKind.i64 (Prod.snd s_327 + (1 : Int))))
                  else none
              else none
            else none
          else none
        else none
      else none
    else none
  else
    some (Sum.inr (Prod.fst s_327))

noncomputable def cellarerref12_Print (l_303 : List (List UInt8 × List UInt8 × Bool)) : Option (List UInt8 × Int) :=
  (cellarerref12_Check (l_303)).bind fun a_317 =>
    bif !Decidable.decide (a_317 = (0 : Int)) then
      some ([], a_317)
    else
      (iter (cellarerref12_Print_b0 (l_303)) ([], (0 : Int))).bind (fun t_322 =>
        some (t_322, (0 : Int)))

def stringslite_HasSuffix_res (r : Bool) : AV := (fun (r_339 : Bool) => AV.bool r_339) r

def stringslite_HasSuffix_out (r : Bool) : List AO := (fun (r_339 : Bool) => []) r

noncomputable def stringslite_HasSuffix (s_336 : List UInt8) (suffix_337 : List UInt8) : Option (Bool) :=
  bif Decidable.decide ((↑(List.length suffix_337) : Int) ≤ (↑(List.length s_336) : Int)) then
    if (0 : Int) ≤ IntKind.wrap IntKind.i64 ((↑(List.length s_336) : Int) - (↑(List.length suffix_337) : Int)) ∧ IntKind.wrap IntKind.i64 ((↑(List.length s_336) : Int) - (↑(List.length suffix_337) : Int)) ≤ (↑(List.length s_336) : Int) ∧ (↑(List.length s_336) : Int) ≤ (↑(List.length s_336) : Int) then
      some (Decidable.decide (List.drop (Int.toNat (IntKind.wrap IntKind.i64 ((↑(List.length s_336) : Int) - (↑(List.length suffix_337) : Int)))) (List.take (Int.toNat (↑(List.length s_336) : Int)) s_336) = suffix_337))
    else none
  else
    some (Bool.false)

def strings_HasSuffix_res (r : Bool) : AV := (fun (r_342 : Bool) => AV.bool r_342) r

def strings_HasSuffix_out (r : Bool) : List AO := (fun (r_342 : Bool) => []) r

noncomputable def strings_HasSuffix (s_334 : List UInt8) (suffix_335 : List UInt8) : Option (Bool) :=
  (stringslite_HasSuffix (s_334) (suffix_335)).bind fun a_340 =>
    some (a_340)

def stanza_Lines_res (r : Int × List (List UInt8)) : AV := (fun (r_347 : Int × List (List UInt8)) => AV.tup [AV.view (0 : Nat) (0 : Nat) Option.none, AV.int IntKind.i64 (Prod.fst r_347)]) r

def stanza_Lines_out (r : Int × List (List UInt8)) : List AO := (fun (r_347 : Int × List (List UInt8)) => [AO.row Ty.str (Prod.snd r_347)]) r

noncomputable def stanza_Lines (s_333 : List UInt8) : Option (Int × List (List UInt8)) :=
  bif Decidable.decide (s_333 = []) then
    some ((0 : Int), [])
  else
    (strings_HasSuffix (s_333) ([(10 : UInt8)])).bind fun a_343 =>
      bif !a_343 then
        some ((2 : Int), [])
      else
        if (0 : Int) ≤ (0 : Int) ∧ (0 : Int) ≤ IntKind.wrap IntKind.i64 ((↑(List.length s_333) : Int) - (1 : Int)) ∧ IntKind.wrap IntKind.i64 ((↑(List.length s_333) : Int) - (1 : Int)) ≤ (↑(List.length s_333) : Int) then
          (strings_Split (List.drop (Int.toNat (0 : Int)) (List.take (Int.toNat (IntKind.wrap IntKind.i64 ((↑(List.length s_333) : Int) - (1 : Int)))) s_333)) ([(10 : UInt8)])).bind fun a_344 =>
            some ((0 : Int), a_344)
        else none

def stringslite_Cut_res (r : List UInt8 × List UInt8 × Bool) : AV := (fun (r_360 : List UInt8 × List UInt8 × Bool) => AV.tup [AV.str (Prod.fst r_360), AV.str (Prod.fst (Prod.snd r_360)), AV.bool (Prod.snd (Prod.snd r_360))]) r

def stringslite_Cut_out (r : List UInt8 × List UInt8 × Bool) : List AO := (fun (r_360 : List UInt8 × List UInt8 × Bool) => []) r

noncomputable def stringslite_Cut (s_354 : List UInt8) (sep_355 : List UInt8) : Option (List UInt8 × List UInt8 × Bool) :=
  (stringslite_Index (s_354) (sep_355)).bind fun a_356 =>
    bif Decidable.decide ((0 : Int) ≤ a_356) then
      if (0 : Int) ≤ (0 : Int) ∧ (0 : Int) ≤ a_356 ∧ a_356 ≤ (↑(List.length s_354) : Int) then
        if (0 : Int) ≤ IntKind.wrap IntKind.i64 (a_356 + (↑(List.length sep_355) : Int)) ∧ IntKind.wrap IntKind.i64 (a_356 + (↑(List.length sep_355) : Int)) ≤ (↑(List.length s_354) : Int) ∧ (↑(List.length s_354) : Int) ≤ (↑(List.length s_354) : Int) then
          some (List.drop (Int.toNat (0 : Int)) (List.take (Int.toNat a_356) s_354), List.drop (Int.toNat (IntKind.wrap IntKind.i64 (a_356 + (↑(List.length sep_355) : Int)))) (List.take (Int.toNat (↑(List.length s_354) : Int)) s_354), Bool.true)
        else none
      else none
    else
      some (s_354, [], Bool.false)

def strings_Cut_res (r : List UInt8 × List UInt8 × Bool) : AV := (fun (r_365 : List UInt8 × List UInt8 × Bool) => AV.tup [AV.str (Prod.fst r_365), AV.str (Prod.fst (Prod.snd r_365)), AV.bool (Prod.snd (Prod.snd r_365))]) r

def strings_Cut_out (r : List UInt8 × List UInt8 × Bool) : List AO := (fun (r_365 : List UInt8 × List UInt8 × Bool) => []) r

noncomputable def strings_Cut (s_352 : List UInt8) (sep_353 : List UInt8) : Option (List UInt8 × List UInt8 × Bool) :=
  (stringslite_Cut (s_352) (sep_353)).bind fun a_361 =>
    some (Prod.fst a_361, Prod.fst (Prod.snd a_361), Prod.snd (Prod.snd a_361))

def stringslite_CutSuffix_res (r : List UInt8 × Bool) : AV := (fun (r_374 : List UInt8 × Bool) => AV.tup [AV.str (Prod.fst r_374), AV.bool (Prod.snd r_374)]) r

def stringslite_CutSuffix_out (r : List UInt8 × Bool) : List AO := (fun (r_374 : List UInt8 × Bool) => []) r

noncomputable def stringslite_CutSuffix (s_369 : List UInt8) (suffix_370 : List UInt8) : Option (List UInt8 × Bool) :=
  (stringslite_HasSuffix (s_369) (suffix_370)).bind fun a_371 =>
    bif !a_371 then
      some (s_369, Bool.false)
    else
      if (0 : Int) ≤ (0 : Int) ∧ (0 : Int) ≤ IntKind.wrap IntKind.i64 ((↑(List.length s_369) : Int) - (↑(List.length suffix_370) : Int)) ∧ IntKind.wrap IntKind.i64 ((↑(List.length s_369) : Int) - (↑(List.length suffix_370) : Int)) ≤ (↑(List.length s_369) : Int) then
        some (List.drop (Int.toNat (0 : Int)) (List.take (Int.toNat (IntKind.wrap IntKind.i64 ((↑(List.length s_369) : Int) - (↑(List.length suffix_370) : Int)))) s_369), Bool.true)
      else none

def strings_CutSuffix_res (r : List UInt8 × Bool) : AV := (fun (r_378 : List UInt8 × Bool) => AV.tup [AV.str (Prod.fst r_378), AV.bool (Prod.snd r_378)]) r

def strings_CutSuffix_out (r : List UInt8 × Bool) : List AO := (fun (r_378 : List UInt8 × Bool) => []) r

noncomputable def strings_CutSuffix (s_367 : List UInt8) (suffix_368 : List UInt8) : Option (List UInt8 × Bool) :=
  (stringslite_CutSuffix (s_367) (suffix_368)).bind fun a_375 =>
    some (Prod.fst a_375, Prod.snd a_375)

def trigs_Parse_res (r : Int × List (List UInt8 × List UInt8 × Bool)) : AV := (fun (r_392 : Int × List (List UInt8 × List UInt8 × Bool)) => AV.tup [AV.view (0 : Nat) (0 : Nat) Option.none, AV.int IntKind.i64 (Prod.fst r_392)]) r

def trigs_Parse_out (r : Int × List (List UInt8 × List UInt8 × Bool)) : List AO := (fun (r_392 : Int × List (List UInt8 × List UInt8 × Bool)) => [AO.row (Ty.prod Ty.str (Ty.prod Ty.str Ty.bool)) (Prod.snd r_392)]) r

noncomputable def trigs_Parse_b0 (t_380 : Int) (o1_383 : List (List UInt8)) (s_393 : Int × List (List UInt8 × List UInt8 × Bool)) : Option ((Int × List (List UInt8 × List UInt8 × Bool)) ⊕ (List (List UInt8 × List UInt8 × Bool))) :=
  bif Decidable.decide (Prod.fst s_393 < t_380) then
    if (0 : Int) ≤ Prod.fst s_393 ∧ Prod.fst s_393 + (↑(0 : Nat) : Int) < (↑(List.length o1_383) : Int) then
      if (0 : Nat) + Int.toNat (Prod.fst s_393) < List.length o1_383 then
        (strings_Cut (List.getD o1_383 ((0 : Nat) + Int.toNat (Prod.fst s_393)) []) ([(32 : UInt8)])).bind fun a_384 =>
          (strings_CutSuffix (Prod.fst (Prod.snd a_384)) ([(47 : UInt8), (110 : UInt8), (111 : UInt8), (97 : UInt8), (119 : UInt8), (97 : UInt8), (105 : UInt8), (116 : UInt8)])).bind fun a_385 =>
            if (List.length (Prod.snd s_393) + List.length ((fun (x : List (Ty.T (Ty.prod Ty.str (Ty.prod Ty.str Ty.bool)))) => x) [(Prod.fst a_384, Prod.fst a_385, Prod.snd a_385)])) * (40 : Nat) ≤ (17592186044416 : Nat) then
              some (Sum.inl (IntKind.wrap IntKind.i64 (Prod.fst s_393 + (1 : Int)), Prod.snd s_393 ++ [(Prod.fst a_384, Prod.fst a_385, Prod.snd a_385)]))
            else none
      else none
    else none
  else
    some (Sum.inr (Prod.snd s_393))

noncomputable def trigs_Parse (s_332 : List UInt8) : Option (Int × List (List UInt8 × List UInt8 × Bool)) :=
  (stanza_Lines (s_332)).bind fun a_348 =>
    bif !Decidable.decide (Prod.fst a_348 = (0 : Int)) then
      some (Prod.fst a_348, [])
    else
      (iter (trigs_Parse_b0 ((↑(List.length (Prod.snd a_348)) : Int) - (↑(0 : Nat) : Int)) (Prod.snd a_348)) ((0 : Int), [])).bind (fun t_387 =>
        (trigs_Check (List.drop (0 : Nat) t_387)).bind fun a_388 =>
          bif !Decidable.decide (a_388 = (0 : Int)) then
            some ((2 : Int), [])
          else
            some ((0 : Int), t_387))

def cellarerref12_Same_res (r : Bool) : AV := (fun (r_406 : Bool) => AV.bool r_406) r

def cellarerref12_Same_out (r : Bool) : List AO := (fun (r_406 : Bool) => []) r

noncomputable def cellarerref12_Same_b0 (a_399 : List (List UInt8 × List UInt8 × Bool)) (b_400 : List (List UInt8 × List UInt8 × Bool)) (s_407 : Int) : Option ((Int) ⊕ (Unit ⊕ Unit)) :=
  bif Decidable.decide (s_407 < (↑(List.length a_399) : Int)) then
    if (0 : Int) ≤ s_407 ∧ s_407 < (↑(List.length a_399) : Int) then
      if (0 : Int) ≤ s_407 ∧ s_407 < (↑(List.length b_400) : Int) then
        bif !(Decidable.decide (Prod.fst (List.getD a_399 (Int.toNat s_407) ([], [], Bool.false)) = Prod.fst (List.getD b_400 (Int.toNat s_407) ([], [], Bool.false))) && (Decidable.decide (Prod.fst (Prod.snd (List.getD a_399 (Int.toNat s_407) ([], [], Bool.false))) = Prod.fst (Prod.snd (List.getD b_400 (Int.toNat s_407) ([], [], Bool.false)))) && Decidable.decide (Prod.snd (Prod.snd (List.getD a_399 (Int.toNat s_407) ([], [], Bool.false))) = Prod.snd (Prod.snd (List.getD b_400 (Int.toNat s_407) ([], [], Bool.false)))))) then
          some (Sum.inr (Sum.inl ()))
        else
          some (Sum.inl (IntKind.wrap IntKind.i64 (s_407 + (1 : Int))))
      else none
    else none
  else
    some (Sum.inr (Sum.inr ()))

noncomputable def cellarerref12_Same (a_397 : List (List UInt8 × List UInt8 × Bool)) (b_398 : List (List UInt8 × List UInt8 × Bool)) : Option (Bool) :=
  bif !Decidable.decide ((↑(List.length a_397) : Int) = (↑(List.length b_398) : Int)) then
    some (Bool.false)
  else
    (iter (cellarerref12_Same_b0 (a_397) (b_398)) ((0 : Int))).bind (Sum.elim (fun t_402 =>
      some (Bool.false)) (fun t_403 =>
      some (Bool.true)))

def trigs_Fire_1_res (r : Bool × List UInt8) : AV := (fun (r_425 : Bool × List UInt8) => AV.bool (Prod.fst r_425)) r

def trigs_Fire_1_out (r : Bool × List UInt8) : List AO := (fun (r_425 : Bool × List UInt8) => [AO.box [AV.str (Prod.snd r_425)]]) r

noncomputable def trigs_Fire_1 (x_420 : List UInt8) (x_421 : List (List UInt8)) (o0_422 : List UInt8) : Option (Bool × List UInt8) :=
  some (Decidable.decide (x_420 = o0_422), o0_422)

def api_Fired__res (r : Int × List UInt8) : AV := (fun (r_435 : Int × List UInt8) => AV.int IntKind.i64 (Prod.fst r_435)) r

def api_Fired__out (r : Int × List UInt8) : List AO := (fun (r_435 : Int × List UInt8) => [AO.box [AV.str (Prod.snd r_435)]]) r

noncomputable def api_Fired__b0 (s_416 : List (List UInt8 × List (List UInt8))) (t_417 : Int) (s_436 : Int × List UInt8) : Option ((Int × List UInt8) ⊕ (Int × List UInt8 ⊕ List UInt8)) :=
  bif Decidable.decide (Prod.fst s_436 < t_417) then
    if (0 : Int) ≤ Prod.fst s_436 ∧ Prod.fst s_436 < (↑(List.length s_416) : Int) then
      (trigs_Fire_1 (Prod.fst (List.getD s_416 (Int.toNat (Prod.fst s_436)) ([], []))) (Prod.snd (List.getD s_416 (Int.toNat (Prod.fst s_436)) ([], []))) (Prod.snd s_436)).bind fun a_426 =>
        bif Prod.fst a_426 then
          some (Sum.inr (Sum.inl (Prod.fst s_436, Prod.snd a_426)))
        else
          some (Sum.inl (IntKind.wrap IntKind.i64 (Prod.fst s_436 + (1 : Int)), Prod.snd a_426))
    else none
  else
    some (Sum.inr (Sum.inr (Prod.snd s_436)))

noncomputable def api_Fired_ (s_414 : List (List UInt8 × List (List UInt8))) (o0_415 : List UInt8) : Option (Int × List UInt8) :=
  (iter (api_Fired__b0 (s_414) ((↑(List.length s_414) : Int))) ((0 : Int), o0_415)).bind (Sum.elim (fun t_429 =>
    some (Prod.fst t_429, Prod.snd t_429)) (fun t_431 =>
    some ((-1 : Int), t_431)))

def slices_Clone___string_string__res (r : List (List UInt8)) : AV := (fun (r_442 : List (List UInt8)) => AV.view (0 : Nat) (0 : Nat) Option.none) r

def slices_Clone___string_string__out (r : List (List UInt8)) : List AO := (fun (r_442 : List (List UInt8)) => [AO.row Ty.str r_442]) r

noncomputable def slices_Clone___string_string_ (s_440 : List (List UInt8)) : Option (List (List UInt8)) :=
  mayb (List.isEmpty s_440) (
    some ([])) (
    if ((0 : Nat) + List.length s_440) * (16 : Nat) ≤ (17592186044416 : Nat) ∧ ((0 : Nat) < List.length s_440 ∨ (0 : Nat) = (0 : Nat)) then
      some (s_440)
    else none)

def trigs_Fire_2_res (r : Bool × List UInt8) : AV := (fun (r_462 : Bool × List UInt8) => AV.bool (Prod.fst r_462)) r

def trigs_Fire_2_out (r : Bool × List UInt8) : List AO := (fun (r_462 : Bool × List UInt8) => [AO.box [AV.str (Prod.snd r_462)]]) r

noncomputable def trigs_Fire_2 (y_457 : List UInt8) (y_458 : List (List UInt8)) (o0_459 : List UInt8) : Option (Bool × List UInt8) :=
  some (!(Go.Op.bytesLess y_457 o0_459 || Decidable.decide (y_457 = o0_459)), o0_459)

def api_Fired__v1_res (r : Int × List UInt8) : AV := (fun (r_472 : Int × List UInt8) => AV.int IntKind.i64 (Prod.fst r_472)) r

def api_Fired__v1_out (r : Int × List UInt8) : List AO := (fun (r_472 : Int × List UInt8) => [AO.box [AV.str (Prod.snd r_472)]]) r

noncomputable def api_Fired__v1_b0 (s_453 : List (List UInt8 × List (List UInt8))) (t_454 : Int) (s_473 : Int × List UInt8) : Option ((Int × List UInt8) ⊕ (Int × List UInt8 ⊕ List UInt8)) :=
  bif Decidable.decide (Prod.fst s_473 < t_454) then
    if (0 : Int) ≤ Prod.fst s_473 ∧ Prod.fst s_473 < (↑(List.length s_453) : Int) then
      (trigs_Fire_2 (Prod.fst (List.getD s_453 (Int.toNat (Prod.fst s_473)) ([], []))) (Prod.snd (List.getD s_453 (Int.toNat (Prod.fst s_473)) ([], []))) (Prod.snd s_473)).bind fun a_463 =>
        bif Prod.fst a_463 then
          some (Sum.inr (Sum.inl (Prod.fst s_473, Prod.snd a_463)))
        else
          some (Sum.inl (IntKind.wrap IntKind.i64 (Prod.fst s_473 + (1 : Int)), Prod.snd a_463))
    else none
  else
    some (Sum.inr (Sum.inr (Prod.snd s_473)))

noncomputable def api_Fired__v1 (s_451 : List (List UInt8 × List (List UInt8))) (o0_452 : List UInt8) : Option (Int × List UInt8) :=
  (iter (api_Fired__v1_b0 (s_451) ((↑(List.length s_451) : Int))) ((0 : Int), o0_452)).bind (Sum.elim (fun t_466 =>
    some (Prod.fst t_466, Prod.snd t_466)) (fun t_468 =>
    some ((-1 : Int), t_468)))

def api_Fired__66_res (r : List (List UInt8 × List (List UInt8))) : AV := (fun (r_480 : List (List UInt8 × List (List UInt8))) => AV.view (0 : Nat) (0 : Nat) Option.none) r

def api_Fired__66_out (r : List (List UInt8 × List (List UInt8))) : List AO := (fun (r_480 : List (List UInt8 × List (List UInt8))) => [AO.row (Ty.prod Ty.str (Ty.list Ty.str)) r_480]) r

noncomputable def api_Fired__66 (s_478 : List (List UInt8 × List (List UInt8))) : Option (List (List UInt8 × List (List UInt8))) :=
  mayb (List.isEmpty s_478) (
    some ([])) (
    if ((0 : Nat) + List.length s_478) * (40 : Nat) ≤ (17592186044416 : Nat) ∧ ((0 : Nat) < List.length s_478 ∨ (0 : Nat) = (0 : Nat)) then
      some (s_478)
    else none)

def api_Fired__83_res (r : List (List UInt8 × List (List UInt8))) : AV := (fun (r_489 : List (List UInt8 × List (List UInt8))) => AV.view (0 : Nat) (0 : Nat) Option.none) r

def api_Fired__83_out (r : List (List UInt8 × List (List UInt8))) : List AO := (fun (r_489 : List (List UInt8 × List (List UInt8))) => [AO.row (Ty.prod Ty.str (Ty.list Ty.str)) r_489]) r

noncomputable def api_Fired__83 (i_485 : Int) (v_486 : List (List UInt8 × List (List UInt8))) (o0_487 : List (List UInt8 × List (List UInt8))) : Option (List (List UInt8 × List (List UInt8))) :=
  if (0 : Int) ≤ i_485 ∧ (↑(0 : Nat) : Int) + i_485 ≤ (↑(List.length o0_487) : Int) then
    bif Decidable.decide ((↑(List.length v_486) : Int) = (0 : Int)) then
      some (o0_487)
    else
      bif Decidable.decide (i_485 = (↑(List.length o0_487) : Int) - (↑(0 : Nat) : Int)) then
        if (List.length o0_487 + List.length v_486) * (40 : Nat) ≤ (17592186044416 : Nat) then
          some (o0_487 ++ v_486)
        else none
      else
        none
  else none

def api_Fired__64_res (r : List UInt8 × List (List UInt8 × List (List UInt8))) : AV := (fun (r_494 : List UInt8 × List (List UInt8 × List (List UInt8))) => AV.view (1 : Nat) (0 : Nat) Option.none) r

def api_Fired__64_out (r : List UInt8 × List (List UInt8 × List (List UInt8))) : List AO := (fun (r_494 : List UInt8 × List (List UInt8 × List (List UInt8))) => [AO.box [AV.str (Prod.fst r_494)], AO.row (Ty.prod Ty.str (Ty.list Ty.str)) (Prod.snd r_494)]) r

noncomputable def api_Fired__64 (l_447 : List (List UInt8 × List (List UInt8))) (x_448 : List UInt8) (x_449 : List (List UInt8)) (o0_450 : List UInt8) : Option (List UInt8 × List (List UInt8 × List (List UInt8))) :=
  (api_Fired__v1 (l_447) (o0_450)).bind fun a_475 =>
    Option.bind (α := Int) (
      bif Decidable.decide (Prod.fst a_475 < (0 : Int)) then
        some ((↑(List.length l_447) : Int))
      else
        some (Prod.fst a_475)) (fun t_477 =>
      (api_Fired__66 (l_447)).bind fun a_481 =>
        (api_Fired__83 (t_477) ([(x_448, x_449)]) (a_481)).bind fun a_490 =>
          some (Prod.snd a_475, a_490))

def trigs_Fire_res (r : List (List UInt8 × List (List UInt8))) : AV := (fun (r_514 : List (List UInt8 × List (List UInt8))) => AV.view (0 : Nat) (0 : Nat) Option.none) r

def trigs_Fire_out (r : List (List UInt8 × List (List UInt8))) : List AO := (fun (r_514 : List (List UInt8 × List (List UInt8))) => [AO.row (Ty.prod Ty.str (Ty.list Ty.str)) r_514]) r

noncomputable def trigs_Fire (l_411 : List (List UInt8 × List (List UInt8))) (trigger_412 : List UInt8) (by_413 : List UInt8) : Option (List (List UInt8 × List (List UInt8))) :=
  (api_Fired_ (l_411) (trigger_412)).bind fun a_438 =>
    Option.bind (α := Unit ⊕ Unit) (
      bif Decidable.decide ((0 : Int) ≤ Prod.fst a_438) then
        if (0 : Int) ≤ Prod.fst a_438 ∧ Prod.fst a_438 < (↑(List.length l_411) : Int) then
          some (Sum.inl ())
        else none
      else
        some (Sum.inr ())) (Sum.elim (fun t_439 =>
      Option.bind (α := List (List UInt8) ⊕ Unit) (
        bif !Decidable.decide (by_413 = []) then
          (slices_Clone___string_string_ (Prod.snd (List.getD l_411 (Int.toNat (Prod.fst a_438)) ([], [])))).bind fun a_443 =>
            if (List.length a_443 + List.length ((fun (x : List (Ty.T Ty.str)) => x) [by_413])) * (16 : Nat) ≤ (17592186044416 : Nat) then
              (path_Sorted (List.drop (0 : Nat) (a_443 ++ [by_413]))).bind fun a_444 =>
                some (Sum.inl (a_444))
            else none
        else
          some (Sum.inr ())) (Sum.elim (fun t_446 =>
        bif Decidable.decide (Prod.fst a_438 < (0 : Int)) then
          (api_Fired__64 (l_411) (Prod.snd a_438) (List.drop (0 : Nat) t_446) (Prod.snd a_438)).bind fun a_495 =>
            some (Prod.snd a_495)
        else
          (api_Fired__66 (l_411)).bind fun a_496 =>
            if (0 : Int) ≤ Prod.fst a_438 ∧ Prod.fst a_438 + (↑(0 : Nat) : Int) < (↑(List.length a_496) : Int) then
              if (0 : Nat) + Int.toNat (Prod.fst a_438) < List.length a_496 then
                some (List.set a_496 ((0 : Nat) + Int.toNat (Prod.fst a_438)) (Prod.snd a_438, List.drop (0 : Nat) t_446))
              else none
            else none) (fun t_497 =>
        bif Decidable.decide (Prod.fst a_438 < (0 : Int)) then
          (api_Fired__64 (l_411) (Prod.snd a_438) (Prod.snd (List.getD l_411 (Int.toNat (Prod.fst a_438)) ([], []))) (Prod.snd a_438)).bind fun a_498 =>
            some (Prod.snd a_498)
        else
          (api_Fired__66 (l_411)).bind fun a_499 =>
            if (0 : Int) ≤ Prod.fst a_438 ∧ Prod.fst a_438 + (↑(0 : Nat) : Int) < (↑(List.length a_499) : Int) then
              if (0 : Nat) + Int.toNat (Prod.fst a_438) < List.length a_499 then
                some (List.set a_499 ((0 : Nat) + Int.toNat (Prod.fst a_438)) (Prod.snd a_438, Prod.snd (List.getD l_411 (Int.toNat (Prod.fst a_438)) ([], []))))
              else none
            else none))) (fun t_501 =>
      Option.bind (α := List (List UInt8) ⊕ Unit) (
        bif !Decidable.decide (by_413 = []) then
          (slices_Clone___string_string_ ([])).bind fun a_502 =>
            if (List.length a_502 + List.length ((fun (x : List (Ty.T Ty.str)) => x) [by_413])) * (16 : Nat) ≤ (17592186044416 : Nat) then
              (path_Sorted (List.drop (0 : Nat) (a_502 ++ [by_413]))).bind fun a_503 =>
                some (Sum.inl (a_503))
            else none
        else
          some (Sum.inr ())) (Sum.elim (fun t_505 =>
        bif Decidable.decide (Prod.fst a_438 < (0 : Int)) then
          (api_Fired__64 (l_411) (Prod.snd a_438) (List.drop (0 : Nat) t_505) (Prod.snd a_438)).bind fun a_506 =>
            some (Prod.snd a_506)
        else
          (api_Fired__66 (l_411)).bind fun a_507 =>
            if (0 : Int) ≤ Prod.fst a_438 ∧ Prod.fst a_438 + (↑(0 : Nat) : Int) < (↑(List.length a_507) : Int) then
              if (0 : Nat) + Int.toNat (Prod.fst a_438) < List.length a_507 then
                some (List.set a_507 ((0 : Nat) + Int.toNat (Prod.fst a_438)) (Prod.snd a_438, List.drop (0 : Nat) t_505))
              else none
            else none) (fun t_508 =>
        bif Decidable.decide (Prod.fst a_438 < (0 : Int)) then
          (api_Fired__64 (l_411) (Prod.snd a_438) ([]) (Prod.snd a_438)).bind fun a_509 =>
            some (Prod.snd a_509)
        else
          (api_Fired__66 (l_411)).bind fun a_510 =>
            if (0 : Int) ≤ Prod.fst a_438 ∧ Prod.fst a_438 + (↑(0 : Nat) : Int) < (↑(List.length a_510) : Int) then
              if (0 : Nat) + Int.toNat (Prod.fst a_438) < List.length a_510 then
                some (List.set a_510 ((0 : Nat) + Int.toNat (Prod.fst a_438)) (Prod.snd a_438, []))
              else none
            else none))))

def trigs_CheckFired_1_res (r : Bool) : AV := (fun (r_526 : Bool) => AV.bool r_526) r

def trigs_CheckFired_1_out (r : Bool) : List AO := (fun (r_526 : Bool) => []) r

noncomputable def trigs_CheckFired_1 (x_523 : List UInt8) (x_524 : List (List UInt8)) : Option (Bool) :=
  some (Decidable.decide ((64 : Int) < (↑(List.length x_524) : Int)))

def api_Fired__v2_res (r : Int) : AV := (fun (r_533 : Int) => AV.int IntKind.i64 r_533) r

def api_Fired__v2_out (r : Int) : List AO := (fun (r_533 : Int) => []) r

noncomputable def api_Fired__v2_b0 (s_520 : List (List UInt8 × List (List UInt8))) (t_521 : Int) (s_534 : Int) : Option ((Int) ⊕ (Int ⊕ Unit)) :=
  bif Decidable.decide (s_534 < t_521) then
    if (0 : Int) ≤ s_534 ∧ s_534 < (↑(List.length s_520) : Int) then
      (trigs_CheckFired_1 (Prod.fst (List.getD s_520 (Int.toNat s_534) ([], []))) (Prod.snd (List.getD s_520 (Int.toNat s_534) ([], [])))).bind fun a_527 =>
        bif a_527 then
          some (Sum.inr (Sum.inl (s_534)))
        else
          some (Sum.inl (IntKind.wrap IntKind.i64 (s_534 + (1 : Int))))
    else none
  else
    some (Sum.inr (Sum.inr ()))

noncomputable def api_Fired__v2 (s_519 : List (List UInt8 × List (List UInt8))) : Option (Int) :=
  (iter (api_Fired__v2_b0 (s_519) ((↑(List.length s_519) : Int))) ((0 : Int))).bind (Sum.elim (fun t_529 =>
    some (t_529)) (fun t_530 =>
    some ((-1 : Int))))

def api_Fired__43_res (r : Bool) : AV := (fun (r_538 : Bool) => AV.bool r_538) r

def api_Fired__43_out (r : Bool) : List AO := (fun (r_538 : Bool) => []) r

noncomputable def api_Fired__43 (s_518 : List (List UInt8 × List (List UInt8))) : Option (Bool) :=
  (api_Fired__v2 (s_518)).bind fun a_536 =>
    some (Decidable.decide ((0 : Int) ≤ a_536))

def trigs_rising_res (r : Bool) : AV := (fun (r_557 : Bool) => AV.bool r_557) r

def trigs_rising_out (r : Bool) : List AO := (fun (r_557 : Bool) => []) r

noncomputable def trigs_rising_b0 (l_548 : List (List UInt8)) (t_549 : List (List UInt8)) (t_550 : Int) (s_558 : Int) : Option ((Int) ⊕ (Unit ⊕ Unit)) :=
  bif Decidable.decide (s_558 < t_550) then
    if (0 : Int) ≤ s_558 ∧ s_558 < (↑(List.length t_549) : Int) then
      (path_Name (List.getD t_549 (Int.toNat s_558) [])).bind fun a_552 =>
        bif !a_552 then
          some (Sum.inr (Sum.inl ()))
        else
          bif Decidable.decide ((0 : Int) < s_558) then
            if (0 : Int) ≤ IntKind.wrap IntKind.i64 (s_558 - (1 : Int)) ∧ IntKind.wrap IntKind.i64 (s_558 - (1 : Int)) < (↑(List.length l_548) : Int) then
              bif !Go.Op.bytesLess (List.getD l_548 (Int.toNat (IntKind.wrap IntKind.i64 (s_558 - (1 : Int)))) []) (List.getD t_549 (Int.toNat s_558) []) then
                some (Sum.inr (Sum.inl ()))
              else
                some (Sum.inl (IntKind.wrap IntKind.i64 (s_558 + (1 : Int))))
            else none
          else
            some (Sum.inl (IntKind.wrap IntKind.i64 (s_558 + (1 : Int))))
    else none
  else
    some (Sum.inr (Sum.inr ()))

noncomputable def trigs_rising (l_547 : List (List UInt8)) : Option (Bool) :=
  (iter (trigs_rising_b0 (l_547) (l_547) ((↑(List.length l_547) : Int))) ((0 : Int))).bind (Sum.elim (fun t_553 =>
    some (Bool.false)) (fun t_554 =>
    some (Bool.true)))

def trigs_CheckFired_res (r : Int) : AV := (fun (r_566 : Int) => AV.int IntKind.i64 r_566) r

def trigs_CheckFired_out (r : Int) : List AO := (fun (r_566 : Int) => []) r

noncomputable def trigs_CheckFired_b0 (l_542 : List (List UInt8 × List (List UInt8))) (t_543 : List (List UInt8 × List (List UInt8))) (t_544 : Int) (s_567 : Int) : Option ((Int) ⊕ (Unit ⊕ Unit)) :=
  bif Decidable.decide (s_567 < t_544) then
    if (0 : Int) ≤ s_567 ∧ s_567 < (↑(List.length t_543) : Int) then
      (status_Trigger (Prod.fst (List.getD t_543 (Int.toNat s_567) ([], [])))).bind fun a_546 =>
        bif !a_546 then
          some (Sum.inr (Sum.inl ()))
        else
          (trigs_rising (Prod.snd (List.getD t_543 (Int.toNat s_567) ([], [])))).bind fun a_560 =>
            bif !a_560 then
              some (Sum.inr (Sum.inl ()))
            else
              bif Decidable.decide ((0 : Int) < s_567) then
                if (0 : Int) ≤ IntKind.wrap IntKind.i64 (s_567 - (1 : Int)) ∧ IntKind.wrap IntKind.i64 (s_567 - (1 : Int)) < (↑(List.length l_542) : Int) then
                  bif !Go.Op.bytesLess (Prod.fst (List.getD l_542 (Int.toNat (IntKind.wrap IntKind.i64 (s_567 - (1 : Int)))) ([], []))) (Prod.fst (List.getD t_543 (Int.toNat s_567) ([], []))) then
                    some (Sum.inr (Sum.inl ()))
                  else
                    some (Sum.inl (IntKind.wrap IntKind.i64 (s_567 + (1 : Int))))
                else none
              else
                some (Sum.inl (IntKind.wrap IntKind.i64 (s_567 + (1 : Int))))
    else none
  else
    some (Sum.inr (Sum.inr ()))

noncomputable def trigs_CheckFired (l_517 : List (List UInt8 × List (List UInt8))) : Option (Int) :=
  Option.bind (α := Unit ⊕ Unit) (
    bif Decidable.decide ((64 : Int) < (↑(List.length l_517) : Int)) then
      some (Sum.inl ())
    else
      (api_Fired__43 (l_517)).bind fun a_539 =>
        bif a_539 then
          some (Sum.inl ())
        else
          some (Sum.inr ())) (Sum.elim (fun t_540 =>
    some ((22 : Int))) (fun t_541 =>
    (iter (trigs_CheckFired_b0 (l_517) (l_517) ((↑(List.length l_517) : Int))) ((0 : Int))).bind (Sum.elim (fun t_561 =>
      some ((1 : Int))) (fun t_562 =>
      some ((0 : Int))))))

def trigs_PrintFired_res (r : List UInt8 × Int) : AV := (fun (r_583 : List UInt8 × Int) => AV.tup [AV.str (Prod.fst r_583), AV.int IntKind.i64 (Prod.snd r_583)]) r

def trigs_PrintFired_out (r : List UInt8 × Int) : List AO := (fun (r_583 : List UInt8 × Int) => []) r

noncomputable def trigs_PrintFired_b0 (t_571 : List (List UInt8 × List (List UInt8))) (t_572 : Int) (s_584 : List UInt8 × Int) : Option ((List UInt8 × Int) ⊕ (List UInt8)) :=
  bif Decidable.decide (Prod.snd s_584 < t_572) then
    if (0 : Int) ≤ Prod.snd s_584 ∧ Prod.snd s_584 < (↑(List.length t_571) : Int) then
      (strings_Join (Prod.snd (List.getD t_571 (Int.toNat (Prod.snd s_584)) ([], []))) ([(32 : UInt8)])).bind fun a_574 =>
        Option.bind (α := List UInt8) (
          bif Decidable.decide (a_574 = []) then
            some ([(45 : UInt8)])
          else
            some (a_574)) (fun t_576 =>
          if List.length (Prod.fst (List.getD t_571 (Int.toNat (Prod.snd s_584)) ([], []))) + List.length ((fun (x : List UInt8) => x) [(32 : UInt8)]) ≤ (140737488355328 : Nat) then
            if List.length (Prod.fst (List.getD t_571 (Int.toNat (Prod.snd s_584)) ([], [])) ++ [(32 : UInt8)]) + List.length t_576 ≤ (140737488355328 : Nat) then
              if List.length (Prod.fst (List.getD t_571 (Int.toNat (Prod.snd s_584)) ([], [])) ++ [(32 : UInt8)] ++ t_576) + List.length ((fun (x : List UInt8) => x) [(10 : UInt8)]) ≤ (140737488355328 : Nat) then
                if List.length (Prod.fst s_584) + List.length (Prod.fst (List.getD t_571 (Int.toNat (Prod.snd s_584)) ([], [])) ++ [(32 : UInt8)] ++ t_576 ++ [(10 : UInt8)]) ≤ (140737488355328 : Nat) then
                  some (Sum.inl (Prod.fst s_584 ++ (Prod.fst (List.getD t_571 (Int.toNat (Prod.snd s_584)) ([], [])) ++ [(32 : UInt8)] ++ t_576 ++ [(10 : UInt8)]), IntKind.wrap IntKind.i64 (Prod.snd s_584 + (1 : Int))))
                else none
              else none
            else none
          else none)
    else none
  else
    some (Sum.inr (Prod.fst s_584))

noncomputable def trigs_PrintFired (l_516 : List (List UInt8 × List (List UInt8))) : Option (List UInt8 × Int) :=
  (trigs_CheckFired (l_516)).bind fun a_569 =>
    bif !Decidable.decide (a_569 = (0 : Int)) then
      some ([], a_569)
    else
      (iter (trigs_PrintFired_b0 (l_516) ((↑(List.length l_516) : Int))) ([], (0 : Int))).bind (fun t_579 =>
        some (t_579, (0 : Int)))

def path_Join_res (r : List UInt8) : AV := (fun (r_600 : List UInt8) => AV.str r_600) r

def path_Join_out (r : List UInt8) : List AO := (fun (r_600 : List UInt8) => []) r

noncomputable def path_Join (dir_596 : List UInt8) (name_597 : List UInt8) : Option (List UInt8) :=
  (strings_HasSuffix (dir_596) ([(47 : UInt8)])).bind fun a_598 =>
    bif a_598 then
      if List.length dir_596 + List.length name_597 ≤ (140737488355328 : Nat) then
        some (dir_596 ++ name_597)
      else none
    else
      if List.length dir_596 + List.length ((fun (x : List UInt8) => x) [(47 : UInt8)]) ≤ (140737488355328 : Nat) then
        if List.length (dir_596 ++ [(47 : UInt8)]) + List.length name_597 ≤ (140737488355328 : Nat) then
          some (dir_596 ++ [(47 : UInt8)] ++ name_597)
        else none
      else none

def path_Under_res (r : Bool) : AV := (fun (r_604 : Bool) => AV.bool r_604) r

def path_Under_out (r : Bool) : List AO := (fun (r_604 : Bool) => []) r

noncomputable def path_Under (dir_594 : List UInt8) (s_595 : List UInt8) : Option (Bool) :=
  (path_Join (dir_594) ([])).bind fun a_601 =>
    (strings_HasPrefix (s_595) (a_601)).bind fun a_602 =>
      bif a_602 then
        some (Decidable.decide ((↑(List.length a_601) : Int) < (↑(List.length s_595) : Int)))
      else
        some (Bool.false)

def trigs_Files_res (r : List (List UInt8)) : AV := (fun (r_618 : List (List UInt8)) => AV.view (0 : Nat) (0 : Nat) Option.none) r

def trigs_Files_out (r : List (List UInt8)) : List AO := (fun (r_618 : List (List UInt8)) => [AO.row Ty.str r_618]) r

noncomputable def trigs_Files_b0 (p_606 : List UInt8) (t_607 : List (List UInt8 × List UInt8 × Bool)) (t_608 : Int) (s_619 : Int × List (List UInt8)) : Option ((Int × List (List UInt8)) ⊕ (List (List UInt8))) :=
  bif Decidable.decide (Prod.fst s_619 < t_608) then
    if (0 : Int) ≤ Prod.fst s_619 ∧ Prod.fst s_619 < (↑(List.length t_607) : Int) then
      (path_Right (Prod.fst (List.getD t_607 (Int.toNat (Prod.fst s_619)) ([], [], Bool.false)))).bind fun a_611 =>
        bif a_611 then
          bif Decidable.decide (Prod.fst (List.getD t_607 (Int.toNat (Prod.fst s_619)) ([], [], Bool.false)) = p_606) then
            if (List.length (Prod.snd s_619) + List.length ((fun (x : List (Ty.T Ty.str)) => x) [Prod.fst (List.getD t_607 (Int.toNat (Prod.fst s_619)) ([], [], Bool.false))])) * (16 : Nat) ≤ (17592186044416 : Nat) then
              some (Sum.inl (IntKind.wrap IntKind.i64 (Prod.fst s_619 + (1 : Int)), Prod.snd s_619 ++ [Prod.fst (List.getD t_607 (Int.toNat (Prod.fst s_619)) ([], [], Bool.false))]))
            else none
          else
            (path_Under (Prod.fst (List.getD t_607 (Int.toNat (Prod.fst s_619)) ([], [], Bool.false))) (p_606)).bind fun a_612 =>
              bif a_612 then
                if (List.length (Prod.snd s_619) + List.length ((fun (x : List (Ty.T Ty.str)) => x) [Prod.fst (List.getD t_607 (Int.toNat (Prod.fst s_619)) ([], [], Bool.false))])) * (16 : Nat) ≤ (17592186044416 : Nat) then
                  some (Sum.inl (IntKind.wrap IntKind.i64 (Prod.fst s_619 + (1 : Int)), Prod.snd s_619 ++ [Prod.fst (List.getD t_607 (Int.toNat (Prod.fst s_619)) ([], [], Bool.false))]))
                else none
              else
                some (Sum.inl (IntKind.wrap IntKind.i64 (Prod.fst s_619 + (1 : Int)), Prod.snd s_619))
        else
          some (Sum.inl (IntKind.wrap IntKind.i64 (Prod.fst s_619 + (1 : Int)), Prod.snd s_619))
    else none
  else
    some (Sum.inr (Prod.snd s_619))

noncomputable def trigs_Files (l_587 : List (List UInt8 × List UInt8 × Bool)) (p_588 : List UInt8) : Option (List (List UInt8)) :=
  (iter (trigs_Files_b0 (p_588) (l_587) ((↑(List.length l_587) : Int))) ((0 : Int), [])).bind (fun t_614 =>
    (path_Sorted (List.drop (0 : Nat) t_614)).bind fun a_615 =>
      some (a_615))

def cellarerref02_Same_res (r : Bool) : AV := (fun (r_631 : Bool) => AV.bool r_631) r

def cellarerref02_Same_out (r : Bool) : List AO := (fun (r_631 : Bool) => []) r

noncomputable def cellarerref02_Same_b0 (a_624 : List (List UInt8)) (b_625 : List (List UInt8)) (s_632 : Int) : Option ((Int) ⊕ (Unit ⊕ Unit)) :=
  bif Decidable.decide (s_632 < (↑(List.length a_624) : Int)) then
    if (0 : Int) ≤ s_632 ∧ s_632 < (↑(List.length a_624) : Int) then
      if (0 : Int) ≤ s_632 ∧ s_632 < (↑(List.length b_625) : Int) then
        bif !Decidable.decide (List.getD a_624 (Int.toNat s_632) [] = List.getD b_625 (Int.toNat s_632) []) then
          some (Sum.inr (Sum.inl ()))
        else
          some (Sum.inl (IntKind.wrap IntKind.i64 (s_632 + (1 : Int))))
      else none
    else none
  else
    some (Sum.inr (Sum.inr ()))

noncomputable def cellarerref02_Same (a_622 : List (List UInt8)) (b_623 : List (List UInt8)) : Option (Bool) :=
  bif !Decidable.decide ((↑(List.length a_622) : Int) = (↑(List.length b_623) : Int)) then
    some (Bool.false)
  else
    (iter (cellarerref02_Same_b0 (a_622) (b_623)) ((0 : Int))).bind (Sum.elim (fun t_627 =>
      some (Bool.false)) (fun t_628 =>
      some (Bool.true)))

def cellarerlaw12_awake_res (r : Bool) : AV := (fun (r_636 : Bool) => AV.bool r_636) r

def cellarerlaw12_awake_out (r : Bool) : List AO := (fun (r_636 : Bool) => []) r

noncomputable def cellarerlaw12_awake  : Option (Bool) :=
  (trigs_Parse ([(47 : UInt8), (117 : UInt8), (115 : UInt8), (114 : UInt8), (32 : UInt8), (97 : UInt8), (47 : UInt8), (110 : UInt8), (111 : UInt8), (97 : UInt8), (119 : UInt8), (97 : UInt8), (105 : UInt8), (116 : UInt8), (10 : UInt8)])).bind fun a_409 =>
    (trigs_Print (List.drop (0 : Nat) (Prod.snd a_409))).bind fun a_410 =>
      (trigs_Fire ([]) ([(47 : UInt8), (117 : UInt8), (115 : UInt8), (114 : UInt8)]) ([(98 : UInt8)])).bind fun a_515 =>
        (trigs_PrintFired (List.drop (0 : Nat) a_515)).bind fun a_586 =>
          bif Decidable.decide (Prod.fst a_409 = (0 : Int)) then
            bif Decidable.decide (Prod.snd a_410 = (0 : Int)) then
              bif Decidable.decide (Prod.fst a_410 = [(47 : UInt8), (117 : UInt8), (115 : UInt8), (114 : UInt8), (32 : UInt8), (97 : UInt8), (47 : UInt8), (110 : UInt8), (111 : UInt8), (97 : UInt8), (119 : UInt8), (97 : UInt8), (105 : UInt8), (116 : UInt8), (10 : UInt8)]) then
                (trigs_Files (List.drop (0 : Nat) (Prod.snd a_409)) ([(47 : UInt8), (117 : UInt8), (115 : UInt8), (114 : UInt8), (47 : UInt8), (98 : UInt8)])).bind fun a_621 =>
                  (cellarerref02_Same (List.drop (0 : Nat) a_621) ([[(47 : UInt8), (117 : UInt8), (115 : UInt8), (114 : UInt8)]])).bind fun a_634 =>
                    bif a_634 then
                      bif Decidable.decide (Prod.snd a_586 = (0 : Int)) then
                        some (Decidable.decide (Prod.fst a_586 = [(47 : UInt8), (117 : UInt8), (115 : UInt8), (114 : UInt8), (32 : UInt8), (98 : UInt8), (10 : UInt8)]))
                      else
                        some (Bool.false)
                    else
                      some (Bool.false)
              else
                some (Bool.false)
            else
              some (Bool.false)
          else
            some (Bool.false)

def cellarerlaw12_TrigsPrints_res (r : Bool) : AV := (fun (r_653 : Bool) => AV.bool r_653) r

def cellarerlaw12_TrigsPrints_out (r : Bool) : List AO := (fun (r_653 : Bool) => []) r

noncomputable def cellarerlaw12_TrigsPrints (l_638 : List (List UInt8 × List UInt8 × Bool)) : Option (Bool) :=
  (cellarerlaw12_Few (l_638)).bind fun a_639 =>
    bif !a_639 then
      (cellarerlaw12_awake ).bind fun a_640 =>
        some (a_640)
    else
      (trigs_Print (l_638)).bind fun a_641 =>
        (cellarerref12_Print (l_638)).bind fun a_642 =>
          Option.bind (α := Unit ⊕ Unit) (
            bif !Decidable.decide (Prod.fst a_641 = Prod.fst a_642) then
              some (Sum.inl ())
            else
              bif !Decidable.decide (Prod.snd a_641 = Prod.snd a_642) then
                some (Sum.inl ())
              else
                (trigs_Check (l_638)).bind fun a_643 =>
                  (cellarerref12_Check (l_638)).bind fun a_644 =>
                    bif !Decidable.decide (a_643 = a_644) then
                      some (Sum.inl ())
                    else
                      some (Sum.inr ())) (Sum.elim (fun t_645 =>
            some (Bool.false)) (fun t_646 =>
            bif !Decidable.decide (Prod.snd a_641 = (0 : Int)) then
              (cellarerlaw12_awake ).bind fun a_647 =>
                some (a_647)
            else
              (trigs_Parse (Prod.fst a_641)).bind fun a_648 =>
                bif Decidable.decide (Prod.fst a_648 = (0 : Int)) then
                  (cellarerref12_Same (List.drop (0 : Nat) (Prod.snd a_648)) (l_638)).bind fun a_649 =>
                    bif a_649 then
                      (cellarerlaw12_awake ).bind fun a_650 =>
                        some (a_650)
                    else
                      some (Bool.false)
                else
                  some (Bool.false)))

def trigs_Set_1_res (r : Bool × List UInt8) : AV := (fun (r_672 : Bool × List UInt8) => AV.bool (Prod.fst r_672)) r

def trigs_Set_1_out (r : Bool × List UInt8) : List AO := (fun (r_672 : Bool × List UInt8) => [AO.box [AV.str (Prod.snd r_672)]]) r

noncomputable def trigs_Set_1 (x_666 : List UInt8) (x_667 : List UInt8) (x_668 : Bool) (o0_669 : List UInt8) : Option (Bool × List UInt8) :=
  some (!Decidable.decide (x_667 = o0_669), o0_669)

def trigs_some_res (r : List UInt8 × List (List UInt8 × List UInt8 × Bool)) : AV := (fun (r_686 : List UInt8 × List (List UInt8 × List UInt8 × Bool)) => AV.view (1 : Nat) (0 : Nat) Option.none) r

def trigs_some_out (r : List UInt8 × List (List UInt8 × List UInt8 × Bool)) : List AO := (fun (r_686 : List UInt8 × List (List UInt8 × List UInt8 × Bool)) => [AO.box [AV.str (Prod.fst r_686)], AO.row (Ty.prod Ty.str (Ty.prod Ty.str Ty.bool)) (Prod.snd r_686)]) r

noncomputable def trigs_some_b0 (t_674 : List (List UInt8 × List UInt8 × Bool)) (t_675 : Int) (s_687 : Int × List UInt8 × List (List UInt8 × List UInt8 × Bool)) : Option ((Int × List UInt8 × List (List UInt8 × List UInt8 × Bool)) ⊕ (List UInt8 × List (List UInt8 × List UInt8 × Bool))) :=
  bif Decidable.decide (Prod.fst s_687 < t_675) then
    if (0 : Int) ≤ Prod.fst s_687 ∧ Prod.fst s_687 < (↑(List.length t_674) : Int) then
      (trigs_Set_1 (Prod.fst (List.getD t_674 (Int.toNat (Prod.fst s_687)) ([], [], Bool.false))) (Prod.fst (Prod.snd (List.getD t_674 (Int.toNat (Prod.fst s_687)) ([], [], Bool.false)))) (Prod.snd (Prod.snd (List.getD t_674 (Int.toNat (Prod.fst s_687)) ([], [], Bool.false)))) (Prod.fst (Prod.snd s_687))).bind fun a_679 =>
        bif Prod.fst a_679 then
          if (List.length (Prod.snd (Prod.snd s_687)) + List.length ((fun (x : List (Ty.T (Ty.prod Ty.str (Ty.prod Ty.str Ty.bool)))) => x) [(Prod.fst (List.getD t_674 (Int.toNat (Prod.fst s_687)) ([], [], Bool.false)), Prod.fst (Prod.snd (List.getD t_674 (Int.toNat (Prod.fst s_687)) ([], [], Bool.false))), Prod.snd (Prod.snd (List.getD t_674 (Int.toNat (Prod.fst s_687)) ([], [], Bool.false))))])) * (40 : Nat) ≤ (17592186044416 : Nat) then
            some (Sum.inl (IntKind.wrap IntKind.i64 (Prod.fst s_687 + (1 : Int)), Prod.snd a_679, Prod.snd (Prod.snd s_687) ++ [(Prod.fst (List.getD t_674 (Int.toNat (Prod.fst s_687)) ([], [], Bool.false)), Prod.fst (Prod.snd (List.getD t_674 (Int.toNat (Prod.fst s_687)) ([], [], Bool.false))), Prod.snd (Prod.snd (List.getD t_674 (Int.toNat (Prod.fst s_687)) ([], [], Bool.false))))]))
          else none
        else
          some (Sum.inl (IntKind.wrap IntKind.i64 (Prod.fst s_687 + (1 : Int)), Prod.snd a_679, Prod.snd (Prod.snd s_687)))
    else none
  else
    some (Sum.inr (Prod.fst (Prod.snd s_687), Prod.snd (Prod.snd s_687)))

noncomputable def trigs_some (l_660 : List (List UInt8 × List UInt8 × Bool)) (o0_661 : List UInt8) : Option (List UInt8 × List (List UInt8 × List UInt8 × Bool)) :=
  (iter (trigs_some_b0 (l_660) ((↑(List.length l_660) : Int))) ((0 : Int), o0_661, [])).bind (fun t_682 =>
    some (Prod.fst t_682, Prod.snd t_682))

def trigs_Set_2_res (r : Bool × List UInt8 × List UInt8 × Bool) : AV := (fun (r_720 : Bool × List UInt8 × List UInt8 × Bool) => AV.bool (Prod.fst r_720)) r

def trigs_Set_2_out (r : Bool × List UInt8 × List UInt8 × Bool) : List AO := (fun (r_720 : Bool × List UInt8 × List UInt8 × Bool) => [AO.box [AV.str (Prod.fst (Prod.snd r_720)), AV.str (Prod.fst (Prod.snd (Prod.snd r_720))), AV.bool (Prod.snd (Prod.snd (Prod.snd r_720)))]]) r

noncomputable def trigs_Set_2 (y_709 : List UInt8) (y_710 : List UInt8) (y_711 : Bool) (o0_712 : List UInt8) (o0_713 : List UInt8) (o0_714 : Bool) : Option (Bool × List UInt8 × List UInt8 × Bool) :=
  (trigs_compare (o0_712) (o0_713) (o0_714) (y_709) (y_710) (y_711)).bind fun a_715 =>
    some (Decidable.decide (a_715 = (0 : Int)), o0_712, o0_713, o0_714)

def api_Interest__78_res (r : Int × List UInt8 × List UInt8 × Bool) : AV := (fun (r_736 : Int × List UInt8 × List UInt8 × Bool) => AV.int IntKind.i64 (Prod.fst r_736)) r

def api_Interest__78_out (r : Int × List UInt8 × List UInt8 × Bool) : List AO := (fun (r_736 : Int × List UInt8 × List UInt8 × Bool) => [AO.box [AV.str (Prod.fst (Prod.snd r_736)), AV.str (Prod.fst (Prod.snd (Prod.snd r_736))), AV.bool (Prod.snd (Prod.snd (Prod.snd r_736)))]]) r

noncomputable def api_Interest__78_b0 (s_703 : List (List UInt8 × List UInt8 × Bool)) (t_704 : Int) (s_737 : Int × List UInt8 × List UInt8 × Bool) : Option ((Int × List UInt8 × List UInt8 × Bool) ⊕ (Int × List UInt8 × List UInt8 × Bool ⊕ List UInt8 × List UInt8 × Bool)) :=
  bif Decidable.decide (Prod.fst s_737 < t_704) then
    if (0 : Int) ≤ Prod.fst s_737 ∧ Prod.fst s_737 < (↑(List.length s_703) : Int) then
      (trigs_Set_2 (Prod.fst (List.getD s_703 (Int.toNat (Prod.fst s_737)) ([], [], Bool.false))) (Prod.fst (Prod.snd (List.getD s_703 (Int.toNat (Prod.fst s_737)) ([], [], Bool.false)))) (Prod.snd (Prod.snd (List.getD s_703 (Int.toNat (Prod.fst s_737)) ([], [], Bool.false)))) (Prod.fst (Prod.snd s_737)) (Prod.fst (Prod.snd (Prod.snd s_737))) (Prod.snd (Prod.snd (Prod.snd s_737)))).bind fun a_721 =>
        bif Prod.fst a_721 then
          some (Sum.inr (Sum.inl (Prod.fst s_737, Prod.fst (Prod.snd a_721), Prod.fst (Prod.snd (Prod.snd a_721)), Prod.snd (Prod.snd (Prod.snd a_721)))))
        else
          some (Sum.inl (IntKind.wrap IntKind.i64 (Prod.fst s_737 + (1 : Int)), Prod.fst (Prod.snd a_721), Prod.fst (Prod.snd (Prod.snd a_721)), Prod.snd (Prod.snd (Prod.snd a_721))))
    else none
  else
    some (Sum.inr (Sum.inr (Prod.fst (Prod.snd s_737), Prod.fst (Prod.snd (Prod.snd s_737)), Prod.snd (Prod.snd (Prod.snd s_737)))))

noncomputable def api_Interest__78 (s_699 : List (List UInt8 × List UInt8 × Bool)) (o0_700 : List UInt8) (o0_701 : List UInt8) (o0_702 : Bool) : Option (Int × List UInt8 × List UInt8 × Bool) :=
  (iter (api_Interest__78_b0 (s_699) ((↑(List.length s_699) : Int))) ((0 : Int), o0_700, o0_701, o0_702)).bind (Sum.elim (fun t_726 =>
    some (Prod.fst t_726, Prod.fst (Prod.snd t_726), Prod.fst (Prod.snd (Prod.snd t_726)), Prod.snd (Prod.snd (Prod.snd t_726)))) (fun t_730 =>
    some ((-1 : Int), Prod.fst t_730, Prod.fst (Prod.snd t_730), Prod.snd (Prod.snd t_730))))

def api_Interest__res (r : Bool × List UInt8 × List UInt8 × Bool) : AV := (fun (r_744 : Bool × List UInt8 × List UInt8 × Bool) => AV.bool (Prod.fst r_744)) r

def api_Interest__out (r : Bool × List UInt8 × List UInt8 × Bool) : List AO := (fun (r_744 : Bool × List UInt8 × List UInt8 × Bool) => [AO.box [AV.str (Prod.fst (Prod.snd r_744)), AV.str (Prod.fst (Prod.snd (Prod.snd r_744))), AV.bool (Prod.snd (Prod.snd (Prod.snd r_744)))]]) r

noncomputable def api_Interest_ (s_695 : List (List UInt8 × List UInt8 × Bool)) (o0_696 : List UInt8) (o0_697 : List UInt8) (o0_698 : Bool) : Option (Bool × List UInt8 × List UInt8 × Bool) :=
  (api_Interest__78 (s_695) (o0_696) (o0_697) (o0_698)).bind fun a_739 =>
    some (Decidable.decide ((0 : Int) ≤ Prod.fst a_739), Prod.fst (Prod.snd a_739), Prod.fst (Prod.snd (Prod.snd a_739)), Prod.snd (Prod.snd (Prod.snd a_739)))

def trigs_Set_3_res (r : Bool × List UInt8 × List UInt8 × Bool) : AV := (fun (r_774 : Bool × List UInt8 × List UInt8 × Bool) => AV.bool (Prod.fst r_774)) r

def trigs_Set_3_out (r : Bool × List UInt8 × List UInt8 × Bool) : List AO := (fun (r_774 : Bool × List UInt8 × List UInt8 × Bool) => [AO.box [AV.str (Prod.fst (Prod.snd r_774)), AV.str (Prod.fst (Prod.snd (Prod.snd r_774))), AV.bool (Prod.snd (Prod.snd (Prod.snd r_774)))]]) r

noncomputable def trigs_Set_3 (y_763 : List UInt8) (y_764 : List UInt8) (y_765 : Bool) (o0_766 : List UInt8) (o0_767 : List UInt8) (o0_768 : Bool) : Option (Bool × List UInt8 × List UInt8 × Bool) :=
  (trigs_compare (y_763) (y_764) (y_765) (o0_766) (o0_767) (o0_768)).bind fun a_769 =>
    some (Decidable.decide ((0 : Int) < a_769), o0_766, o0_767, o0_768)

def api_Interest__v1_res (r : Int × List UInt8 × List UInt8 × Bool) : AV := (fun (r_790 : Int × List UInt8 × List UInt8 × Bool) => AV.int IntKind.i64 (Prod.fst r_790)) r

def api_Interest__v1_out (r : Int × List UInt8 × List UInt8 × Bool) : List AO := (fun (r_790 : Int × List UInt8 × List UInt8 × Bool) => [AO.box [AV.str (Prod.fst (Prod.snd r_790)), AV.str (Prod.fst (Prod.snd (Prod.snd r_790))), AV.bool (Prod.snd (Prod.snd (Prod.snd r_790)))]]) r

noncomputable def api_Interest__v1_b0 (s_757 : List (List UInt8 × List UInt8 × Bool)) (t_758 : Int) (s_791 : Int × List UInt8 × List UInt8 × Bool) : Option ((Int × List UInt8 × List UInt8 × Bool) ⊕ (Int × List UInt8 × List UInt8 × Bool ⊕ List UInt8 × List UInt8 × Bool)) :=
  bif Decidable.decide (Prod.fst s_791 < t_758) then
    if (0 : Int) ≤ Prod.fst s_791 ∧ Prod.fst s_791 < (↑(List.length s_757) : Int) then
      (trigs_Set_3 (Prod.fst (List.getD s_757 (Int.toNat (Prod.fst s_791)) ([], [], Bool.false))) (Prod.fst (Prod.snd (List.getD s_757 (Int.toNat (Prod.fst s_791)) ([], [], Bool.false)))) (Prod.snd (Prod.snd (List.getD s_757 (Int.toNat (Prod.fst s_791)) ([], [], Bool.false)))) (Prod.fst (Prod.snd s_791)) (Prod.fst (Prod.snd (Prod.snd s_791))) (Prod.snd (Prod.snd (Prod.snd s_791)))).bind fun a_775 =>
        bif Prod.fst a_775 then
          some (Sum.inr (Sum.inl (Prod.fst s_791, Prod.fst (Prod.snd a_775), Prod.fst (Prod.snd (Prod.snd a_775)), Prod.snd (Prod.snd (Prod.snd a_775)))))
        else
          some (Sum.inl (IntKind.wrap IntKind.i64 (Prod.fst s_791 + (1 : Int)), Prod.fst (Prod.snd a_775), Prod.fst (Prod.snd (Prod.snd a_775)), Prod.snd (Prod.snd (Prod.snd a_775))))
    else none
  else
    some (Sum.inr (Sum.inr (Prod.fst (Prod.snd s_791), Prod.fst (Prod.snd (Prod.snd s_791)), Prod.snd (Prod.snd (Prod.snd s_791)))))

noncomputable def api_Interest__v1 (s_753 : List (List UInt8 × List UInt8 × Bool)) (o0_754 : List UInt8) (o0_755 : List UInt8) (o0_756 : Bool) : Option (Int × List UInt8 × List UInt8 × Bool) :=
  (iter (api_Interest__v1_b0 (s_753) ((↑(List.length s_753) : Int))) ((0 : Int), o0_754, o0_755, o0_756)).bind (Sum.elim (fun t_780 =>
    some (Prod.fst t_780, Prod.fst (Prod.snd t_780), Prod.fst (Prod.snd (Prod.snd t_780)), Prod.snd (Prod.snd (Prod.snd t_780)))) (fun t_784 =>
    some ((-1 : Int), Prod.fst t_784, Prod.fst (Prod.snd t_784), Prod.snd (Prod.snd t_784))))

def api_Interest__80_res (r : List (List UInt8 × List UInt8 × Bool)) : AV := (fun (r_798 : List (List UInt8 × List UInt8 × Bool)) => AV.view (0 : Nat) (0 : Nat) Option.none) r

def api_Interest__80_out (r : List (List UInt8 × List UInt8 × Bool)) : List AO := (fun (r_798 : List (List UInt8 × List UInt8 × Bool)) => [AO.row (Ty.prod Ty.str (Ty.prod Ty.str Ty.bool)) r_798]) r

noncomputable def api_Interest__80 (s_796 : List (List UInt8 × List UInt8 × Bool)) : Option (List (List UInt8 × List UInt8 × Bool)) :=
  mayb (List.isEmpty s_796) (
    some ([])) (
    if ((0 : Nat) + List.length s_796) * (40 : Nat) ≤ (17592186044416 : Nat) ∧ ((0 : Nat) < List.length s_796 ∨ (0 : Nat) = (0 : Nat)) then
      some (s_796)
    else none)

def api_Interest__56_res (r : List UInt8 × List UInt8 × Bool × List (List UInt8 × List UInt8 × Bool)) : AV := (fun (r_806 : List UInt8 × List UInt8 × Bool × List (List UInt8 × List UInt8 × Bool)) => AV.view (1 : Nat) (0 : Nat) Option.none) r

def api_Interest__56_out (r : List UInt8 × List UInt8 × Bool × List (List UInt8 × List UInt8 × Bool)) : List AO := (fun (r_806 : List UInt8 × List UInt8 × Bool × List (List UInt8 × List UInt8 × Bool)) => [AO.box [AV.str (Prod.fst r_806), AV.str (Prod.fst (Prod.snd r_806)), AV.bool (Prod.fst (Prod.snd (Prod.snd r_806)))], AO.row (Ty.prod Ty.str (Ty.prod Ty.str Ty.bool)) (Prod.snd (Prod.snd (Prod.snd r_806)))]) r

noncomputable def api_Interest__56 (l_746 : List (List UInt8 × List UInt8 × Bool)) (x_747 : List UInt8) (x_748 : List UInt8) (x_749 : Bool) (o0_750 : List UInt8) (o0_751 : List UInt8) (o0_752 : Bool) : Option (List UInt8 × List UInt8 × Bool × List (List UInt8 × List UInt8 × Bool)) :=
  (api_Interest__v1 (l_746) (o0_750) (o0_751) (o0_752)).bind fun a_793 =>
    Option.bind (α := Int) (
      bif Decidable.decide (Prod.fst a_793 < (0 : Int)) then
        some ((↑(List.length l_746) : Int))
      else
        some (Prod.fst a_793)) (fun t_795 =>
      (api_Interest__80 (l_746)).bind fun a_799 =>
        (api_Interest__79 (t_795) ([(x_747, x_748, x_749)]) (a_799)).bind fun a_800 =>
          some (Prod.fst (Prod.snd a_793), Prod.fst (Prod.snd (Prod.snd a_793)), Prod.snd (Prod.snd (Prod.snd a_793)), a_800))

def trigs_Set_res (r : List (List UInt8 × List UInt8 × Bool)) : AV := (fun (r_812 : List (List UInt8 × List UInt8 × Bool)) => AV.view (0 : Nat) (0 : Nat) Option.none) r

def trigs_Set_out (r : List (List UInt8 × List UInt8 × Bool)) : List AO := (fun (r_812 : List (List UInt8 × List UInt8 × Bool)) => [AO.row (Ty.prod Ty.str (Ty.prod Ty.str Ty.bool)) r_812]) r

noncomputable def trigs_Set_b0 (t_690 : List (List UInt8 × List UInt8 × Bool)) (t_691 : Int) (o0_693 : List UInt8) (s_813 : Int × List (List UInt8 × List UInt8 × Bool)) : Option ((Int × List (List UInt8 × List UInt8 × Bool)) ⊕ (List (List UInt8 × List UInt8 × Bool))) :=
  bif Decidable.decide (Prod.fst s_813 < t_691) then
    if (0 : Int) ≤ Prod.fst s_813 ∧ Prod.fst s_813 < (↑(List.length t_690) : Int) then
      (api_Interest_ (List.drop (0 : Nat) (Prod.snd s_813)) (Prod.fst (List.getD t_690 (Int.toNat (Prod.fst s_813)) ([], [], Bool.false))) (o0_693) (Prod.snd (Prod.snd (List.getD t_690 (Int.toNat (Prod.fst s_813)) ([], [], Bool.false))))).bind fun a_745 =>
        bif !Prod.fst a_745 then
          (api_Interest__56 (List.drop (0 : Nat) (Prod.snd s_813)) (Prod.fst (Prod.snd a_745)) (Prod.fst (Prod.snd (Prod.snd a_745))) (Prod.snd (Prod.snd (Prod.snd a_745))) (Prod.fst (Prod.snd a_745)) (Prod.fst (Prod.snd (Prod.snd a_745))) (Prod.snd (Prod.snd (Prod.snd a_745)))).bind fun a_807 =>
            some (Sum.inl (IntKind.wrap IntKind.i64 (Prod.fst s_813 + (1 : Int)), Prod.snd (Prod.snd (Prod.snd a_807))))
        else
          some (Sum.inl (IntKind.wrap IntKind.i64 (Prod.fst s_813 + (1 : Int)), Prod.snd s_813))
    else none
  else
    some (Sum.inr (Prod.snd s_813))

noncomputable def trigs_Set (l_657 : List (List UInt8 × List UInt8 × Bool)) (pkg_658 : List UInt8) (own_659 : List (List UInt8 × List UInt8 × Bool)) : Option (List (List UInt8 × List UInt8 × Bool)) :=
  (trigs_some (l_657) (pkg_658)).bind fun a_689 =>
    (iter (trigs_Set_b0 (own_659) ((↑(List.length own_659) : Int)) (Prod.fst a_689)) ((0 : Int), Prod.snd a_689)).bind (fun t_809 =>
      some (t_809))

def cellarerref12_For_res (r : List (List UInt8 × List UInt8 × Bool)) : AV := (fun (r_849 : List (List UInt8 × List UInt8 × Bool)) => AV.view (0 : Nat) (0 : Nat) Option.none) r

def cellarerref12_For_out (r : List (List UInt8 × List UInt8 × Bool)) : List AO := (fun (r_849 : List (List UInt8 × List UInt8 × Bool)) => [AO.row (Ty.prod Ty.str (Ty.prod Ty.str Ty.bool)) r_849]) r

noncomputable def cellarerref12_For_b0 (l_841 : List (List UInt8 × List UInt8 × Bool)) (trigger_842 : List UInt8) (s_850 : Int × List (List UInt8 × List UInt8 × Bool)) : Option ((Int × List (List UInt8 × List UInt8 × Bool)) ⊕ (List (List UInt8 × List UInt8 × Bool))) :=
  bif Decidable.decide (Prod.fst s_850 < (↑(List.length l_841) : Int)) then
    if (0 : Int) ≤ Prod.fst s_850 ∧ Prod.fst s_850 < (↑(List.length l_841) : Int) then
      bif Decidable.decide (Prod.fst (List.getD l_841 (Int.toNat (Prod.fst s_850)) ([], [], Bool.false)) = trigger_842) then
        if (0 : Int) ≤ Prod.fst s_850 ∧ Prod.fst s_850 < (↑(List.length l_841) : Int) then
          if (List.length (Prod.snd s_850) + List.length ((fun (x : List (Ty.T (Ty.prod Ty.str (Ty.prod Ty.str Ty.bool)))) => x) [(Prod.fst (List.getD l_841 (Int.toNat (Prod.fst s_850)) ([], [], Bool.false)), Prod.fst (Prod.snd (List.getD l_841 (Int.toNat (Prod.fst s_850)) ([], [], Bool.false))), Prod.snd (Prod.snd (List.getD l_841 (Int.toNat (Prod.fst s_850)) ([], [], Bool.false))))])) * (40 : Nat) ≤ (17592186044416 : Nat) then
            some (Sum.inl (IntKind.wrap IntKind.i64 (Prod.fst s_850 + (1 : Int)), Prod.snd s_850 ++ [(Prod.fst (List.getD l_841 (Int.toNat (Prod.fst s_850)) ([], [], Bool.false)), Prod.fst (Prod.snd (List.getD l_841 (Int.toNat (Prod.fst s_850)) ([], [], Bool.false))), Prod.snd (Prod.snd (List.getD l_841 (Int.toNat (Prod.fst s_850)) ([], [], Bool.false))))]))
          else none
        else none
      else
        some (Sum.inl (IntKind.wrap IntKind.i64 (Prod.fst s_850 + (1 : Int)), Prod.snd s_850))
    else none
  else
    some (Sum.inr (Prod.snd s_850))

noncomputable def cellarerref12_For (l_836 : List (List UInt8 × List UInt8 × Bool)) (trigger_837 : List UInt8) : Option (List (List UInt8 × List UInt8 × Bool)) :=
  (iter (cellarerref12_For_b0 (l_836) (trigger_837)) ((0 : Int), [])).bind (fun t_846 =>
    some (t_846))

def cellarerref12_put_res (r : List (List UInt8 × List UInt8 × Bool)) : AV := (fun (r_884 : List (List UInt8 × List UInt8 × Bool)) => AV.view (0 : Nat) (0 : Nat) Option.none) r

def cellarerref12_put_out (r : List (List UInt8 × List UInt8 × Bool)) : List AO := (fun (r_884 : List (List UInt8 × List UInt8 × Bool)) => [AO.row (Ty.prod Ty.str (Ty.prod Ty.str Ty.bool)) r_884]) r

noncomputable def cellarerref12_put_b0 (l_867 : List (List UInt8 × List UInt8 × Bool)) (o0_870 : List UInt8) (o0_871 : List UInt8) (o0_872 : Bool) (s_885 : Bool × Int × List (List UInt8 × List UInt8 × Bool)) : Option ((Bool × Int × List (List UInt8 × List UInt8 × Bool)) ⊕ (Bool × List (List UInt8 × List UInt8 × Bool))) :=
  bif Decidable.decide (Prod.fst (Prod.snd s_885) < (↑(List.length l_867) : Int)) then
    Option.bind (α := Bool × List (List UInt8 × List UInt8 × Bool)) (
      bif !Prod.fst s_885 then
        if (0 : Int) ≤ Prod.fst (Prod.snd s_885) ∧ Prod.fst (Prod.snd s_885) < (↑(List.length l_867) : Int) then
          (cellarerref12_less (o0_870) (o0_871) (o0_872) (Prod.fst (List.getD l_867 (Int.toNat (Prod.fst (Prod.snd s_885))) ([], [], Bool.false))) (Prod.fst (Prod.snd (List.getD l_867 (Int.toNat (Prod.fst (Prod.snd s_885))) ([], [], Bool.false)))) (Prod.snd (Prod.snd (List.getD l_867 (Int.toNat (Prod.fst (Prod.snd s_885))) ([], [], Bool.false))))).bind fun a_874 =>
            bif a_874 then
              if (List.length (Prod.snd (Prod.snd s_885)) + List.length ((fun (x : List (Ty.T (Ty.prod Ty.str (Ty.prod Ty.str Ty.bool)))) => x) [(o0_870, o0_871, o0_872)])) * (40 : Nat) ≤ (17592186044416 : Nat) then
                some (Bool.true, Prod.snd (Prod.snd s_885) ++ [(o0_870, o0_871, o0_872)])
              else none
            else
              some (Prod.fst s_885, Prod.snd (Prod.snd s_885))
        else none
      else
        some (Prod.fst s_885, Prod.snd (Prod.snd s_885))) (fun t_877 =>
      if (0 : Int) ≤ Prod.fst (Prod.snd s_885) ∧ Prod.fst (Prod.snd s_885) < (↑(List.length l_867) : Int) then
        if (List.length (Prod.snd t_877) + List.length ((fun (x : List (Ty.T (Ty.prod Ty.str (Ty.prod Ty.str Ty.bool)))) => x) [(Prod.fst (List.getD l_867 (Int.toNat (Prod.fst (Prod.snd s_885))) ([], [], Bool.false)), Prod.fst (Prod.snd (List.getD l_867 (Int.toNat (Prod.fst (Prod.snd s_885))) ([], [], Bool.false))), Prod.snd (Prod.snd (List.getD l_867 (Int.toNat (Prod.fst (Prod.snd s_885))) ([], [], Bool.false))))])) * (40 : Nat) ≤ (17592186044416 : Nat) then
          some (Sum.inl (Prod.fst t_877, IntKind.wrap IntKind.i64 (Prod.fst (Prod.snd s_885) + (1 : Int)), Prod.snd t_877 ++ [(Prod.fst (List.getD l_867 (Int.toNat (Prod.fst (Prod.snd s_885))) ([], [], Bool.false)), Prod.fst (Prod.snd (List.getD l_867 (Int.toNat (Prod.fst (Prod.snd s_885))) ([], [], Bool.false))), Prod.snd (Prod.snd (List.getD l_867 (Int.toNat (Prod.fst (Prod.snd s_885))) ([], [], Bool.false))))]))
        else none
      else none)
  else
    some (Sum.inr (Prod.fst s_885, Prod.snd (Prod.snd s_885)))

noncomputable def cellarerref12_put (l_853 : List (List UInt8 × List UInt8 × Bool)) (x_854 : List UInt8) (x_855 : List UInt8) (x_856 : Bool) : Option (List (List UInt8 × List UInt8 × Bool)) :=
  (iter (cellarerref12_put_b0 (l_853) (x_854) (x_855) (x_856)) (Bool.false, (0 : Int), [])).bind (fun t_881 =>
    bif !Prod.fst t_881 then
      if (List.length (Prod.snd t_881) + List.length ((fun (x : List (Ty.T (Ty.prod Ty.str (Ty.prod Ty.str Ty.bool)))) => x) [(x_854, x_855, x_856)])) * (40 : Nat) ≤ (17592186044416 : Nat) then
        some (Prod.snd t_881 ++ [(x_854, x_855, x_856)])
      else none
    else
      some (Prod.snd t_881))

def cellarerref12_Set_res (r : List (List UInt8 × List UInt8 × Bool)) : AV := (fun (r_893 : List (List UInt8 × List UInt8 × Bool)) => AV.view (0 : Nat) (0 : Nat) Option.none) r

def cellarerref12_Set_out (r : List (List UInt8 × List UInt8 × Bool)) : List AO := (fun (r_893 : List (List UInt8 × List UInt8 × Bool)) => [AO.row (Ty.prod Ty.str (Ty.prod Ty.str Ty.bool)) r_893]) r

noncomputable def cellarerref12_Set_b0 (l_825 : List (List UInt8 × List UInt8 × Bool)) (pkg_826 : List UInt8) (s_894 : Int × List (List UInt8 × List UInt8 × Bool)) : Option ((Int × List (List UInt8 × List UInt8 × Bool)) ⊕ (List (List UInt8 × List UInt8 × Bool))) :=
  bif Decidable.decide (Prod.fst s_894 < (↑(List.length l_825) : Int)) then
    if (0 : Int) ≤ Prod.fst s_894 ∧ Prod.fst s_894 < (↑(List.length l_825) : Int) then
      bif !Decidable.decide (Prod.fst (Prod.snd (List.getD l_825 (Int.toNat (Prod.fst s_894)) ([], [], Bool.false))) = pkg_826) then
        if (0 : Int) ≤ Prod.fst s_894 ∧ Prod.fst s_894 < (↑(List.length l_825) : Int) then
          if (List.length (Prod.snd s_894) + List.length ((fun (x : List (Ty.T (Ty.prod Ty.str (Ty.prod Ty.str Ty.bool)))) => x) [(Prod.fst (List.getD l_825 (Int.toNat (Prod.fst s_894)) ([], [], Bool.false)), Prod.fst (Prod.snd (List.getD l_825 (Int.toNat (Prod.fst s_894)) ([], [], Bool.false))), Prod.snd (Prod.snd (List.getD l_825 (Int.toNat (Prod.fst s_894)) ([], [], Bool.false))))])) * (40 : Nat) ≤ (17592186044416 : Nat) then
            some (Sum.inl (IntKind.wrap IntKind.i64 (Prod.fst s_894 + (1 : Int)), Prod.snd s_894 ++ [(Prod.fst (List.getD l_825 (Int.toNat (Prod.fst s_894)) ([], [], Bool.false)), Prod.fst (Prod.snd (List.getD l_825 (Int.toNat (Prod.fst s_894)) ([], [], Bool.false))), Prod.snd (Prod.snd (List.getD l_825 (Int.toNat (Prod.fst s_894)) ([], [], Bool.false))))]))
          else none
        else none
      else
        some (Sum.inl (IntKind.wrap IntKind.i64 (Prod.fst s_894 + (1 : Int)), Prod.snd s_894))
    else none
  else
    some (Sum.inr (Prod.snd s_894))

noncomputable def cellarerref12_Set_b1 (pkg_832 : List UInt8) (own_833 : List (List UInt8 × List UInt8 × Bool)) (s_895 : Int × List (List UInt8 × List UInt8 × Bool)) : Option ((Int × List (List UInt8 × List UInt8 × Bool)) ⊕ (List (List UInt8 × List UInt8 × Bool))) :=
  bif Decidable.decide (Prod.fst s_895 < (↑(List.length own_833) : Int)) then
    if (0 : Int) ≤ (0 : Int) ∧ (0 : Int) ≤ Prod.fst s_895 ∧ Prod.fst s_895 ≤ (↑(List.length own_833) : Int) then
      if (0 : Int) ≤ Prod.fst s_895 ∧ Prod.fst s_895 < (↑(List.length own_833) : Int) then
        (cellarerref12_For (List.drop (Int.toNat (0 : Int)) (List.take (Int.toNat (Prod.fst s_895)) own_833)) (Prod.fst (List.getD own_833 (Int.toNat (Prod.fst s_895)) ([], [], Bool.false)))).bind fun a_852 =>
          bif Decidable.decide ((↑(List.length a_852) : Int) - (↑(0 : Nat) : Int) = (0 : Int)) then
            if (0 : Int) ≤ Prod.fst s_895 ∧ Prod.fst s_895 < (↑(List.length own_833) : Int) then
              if (0 : Int) ≤ Prod.fst s_895 ∧ Prod.fst s_895 < (↑(List.length own_833) : Int) then
                (cellarerref12_put (List.drop (0 : Nat) (Prod.snd s_895)) (Prod.fst (List.getD own_833 (Int.toNat (Prod.fst s_895)) ([], [], Bool.false))) (pkg_832) (Prod.snd (Prod.snd (List.getD own_833 (Int.toNat (Prod.fst s_895)) ([], [], Bool.false))))).bind fun a_887 =>
                  some (Sum.inl (IntKind.wrap IntKind.i64 (Prod.fst s_895 + (1 : Int)), a_887))
              else none
            else none
          else
            some (Sum.inl (IntKind.wrap IntKind.i64 (Prod.fst s_895 + (1 : Int)), Prod.snd s_895))
      else none
    else none
  else
    some (Sum.inr (Prod.snd s_895))

noncomputable def cellarerref12_Set (l_818 : List (List UInt8 × List UInt8 × Bool)) (pkg_819 : List UInt8) (own_820 : List (List UInt8 × List UInt8 × Bool)) : Option (List (List UInt8 × List UInt8 × Bool)) :=
  (iter (cellarerref12_Set_b0 (l_818) (pkg_819)) ((0 : Int), [])).bind (fun t_831 =>
    (iter (cellarerref12_Set_b1 (pkg_819) (own_820)) ((0 : Int), t_831)).bind (fun t_889 =>
      some (t_889)))

def trigs_Of_1_res (r : Bool × List UInt8) : AV := (fun (r_914 : Bool × List UInt8) => AV.bool (Prod.fst r_914)) r

def trigs_Of_1_out (r : Bool × List UInt8) : List AO := (fun (r_914 : Bool × List UInt8) => [AO.box [AV.str (Prod.snd r_914)]]) r

noncomputable def trigs_Of_1 (x_908 : List UInt8) (x_909 : List UInt8) (x_910 : Bool) (o0_911 : List UInt8) : Option (Bool × List UInt8) :=
  some (Decidable.decide (x_909 = o0_911), o0_911)

def trigs_some_v1_res (r : List UInt8 × List (List UInt8 × List UInt8 × Bool)) : AV := (fun (r_928 : List UInt8 × List (List UInt8 × List UInt8 × Bool)) => AV.view (1 : Nat) (0 : Nat) Option.none) r

def trigs_some_v1_out (r : List UInt8 × List (List UInt8 × List UInt8 × Bool)) : List AO := (fun (r_928 : List UInt8 × List (List UInt8 × List UInt8 × Bool)) => [AO.box [AV.str (Prod.fst r_928)], AO.row (Ty.prod Ty.str (Ty.prod Ty.str Ty.bool)) (Prod.snd r_928)]) r

noncomputable def trigs_some_v1_b0 (t_916 : List (List UInt8 × List UInt8 × Bool)) (t_917 : Int) (s_929 : Int × List UInt8 × List (List UInt8 × List UInt8 × Bool)) : Option ((Int × List UInt8 × List (List UInt8 × List UInt8 × Bool)) ⊕ (List UInt8 × List (List UInt8 × List UInt8 × Bool))) :=
  bif Decidable.decide (Prod.fst s_929 < t_917) then
    if (0 : Int) ≤ Prod.fst s_929 ∧ Prod.fst s_929 < (↑(List.length t_916) : Int) then
      (trigs_Of_1 (Prod.fst (List.getD t_916 (Int.toNat (Prod.fst s_929)) ([], [], Bool.false))) (Prod.fst (Prod.snd (List.getD t_916 (Int.toNat (Prod.fst s_929)) ([], [], Bool.false)))) (Prod.snd (Prod.snd (List.getD t_916 (Int.toNat (Prod.fst s_929)) ([], [], Bool.false)))) (Prod.fst (Prod.snd s_929))).bind fun a_921 =>
        bif Prod.fst a_921 then
          if (List.length (Prod.snd (Prod.snd s_929)) + List.length ((fun (x : List (Ty.T (Ty.prod Ty.str (Ty.prod Ty.str Ty.bool)))) => x) [(Prod.fst (List.getD t_916 (Int.toNat (Prod.fst s_929)) ([], [], Bool.false)), Prod.fst (Prod.snd (List.getD t_916 (Int.toNat (Prod.fst s_929)) ([], [], Bool.false))), Prod.snd (Prod.snd (List.getD t_916 (Int.toNat (Prod.fst s_929)) ([], [], Bool.false))))])) * (40 : Nat) ≤ (17592186044416 : Nat) then
            some (Sum.inl (IntKind.wrap IntKind.i64 (Prod.fst s_929 + (1 : Int)), Prod.snd a_921, Prod.snd (Prod.snd s_929) ++ [(Prod.fst (List.getD t_916 (Int.toNat (Prod.fst s_929)) ([], [], Bool.false)), Prod.fst (Prod.snd (List.getD t_916 (Int.toNat (Prod.fst s_929)) ([], [], Bool.false))), Prod.snd (Prod.snd (List.getD t_916 (Int.toNat (Prod.fst s_929)) ([], [], Bool.false))))]))
          else none
        else
          some (Sum.inl (IntKind.wrap IntKind.i64 (Prod.fst s_929 + (1 : Int)), Prod.snd a_921, Prod.snd (Prod.snd s_929)))
    else none
  else
    some (Sum.inr (Prod.fst (Prod.snd s_929), Prod.snd (Prod.snd s_929)))

noncomputable def trigs_some_v1 (l_902 : List (List UInt8 × List UInt8 × Bool)) (o0_903 : List UInt8) : Option (List UInt8 × List (List UInt8 × List UInt8 × Bool)) :=
  (iter (trigs_some_v1_b0 (l_902) ((↑(List.length l_902) : Int))) ((0 : Int), o0_903, [])).bind (fun t_924 =>
    some (Prod.fst t_924, Prod.snd t_924))

def trigs_Of_res (r : List (List UInt8 × List UInt8 × Bool)) : AV := (fun (r_933 : List (List UInt8 × List UInt8 × Bool)) => AV.view (0 : Nat) (0 : Nat) Option.none) r

def trigs_Of_out (r : List (List UInt8 × List UInt8 × Bool)) : List AO := (fun (r_933 : List (List UInt8 × List UInt8 × Bool)) => [AO.row (Ty.prod Ty.str (Ty.prod Ty.str Ty.bool)) r_933]) r

noncomputable def trigs_Of (l_900 : List (List UInt8 × List UInt8 × Bool)) (pkg_901 : List UInt8) : Option (List (List UInt8 × List UInt8 × Bool)) :=
  (trigs_some_v1 (l_900) (pkg_901)).bind fun a_931 =>
    some (Prod.snd a_931)

def cellarerref12_Of_res (r : List (List UInt8 × List UInt8 × Bool)) : AV := (fun (r_949 : List (List UInt8 × List UInt8 × Bool)) => AV.view (0 : Nat) (0 : Nat) Option.none) r

def cellarerref12_Of_out (r : List (List UInt8 × List UInt8 × Bool)) : List AO := (fun (r_949 : List (List UInt8 × List UInt8 × Bool)) => [AO.row (Ty.prod Ty.str (Ty.prod Ty.str Ty.bool)) r_949]) r

noncomputable def cellarerref12_Of_b0 (l_941 : List (List UInt8 × List UInt8 × Bool)) (pkg_942 : List UInt8) (s_950 : Int × List (List UInt8 × List UInt8 × Bool)) : Option ((Int × List (List UInt8 × List UInt8 × Bool)) ⊕ (List (List UInt8 × List UInt8 × Bool))) :=
  bif Decidable.decide (Prod.fst s_950 < (↑(List.length l_941) : Int)) then
    if (0 : Int) ≤ Prod.fst s_950 ∧ Prod.fst s_950 < (↑(List.length l_941) : Int) then
      bif Decidable.decide (Prod.fst (Prod.snd (List.getD l_941 (Int.toNat (Prod.fst s_950)) ([], [], Bool.false))) = pkg_942) then
        if (0 : Int) ≤ Prod.fst s_950 ∧ Prod.fst s_950 < (↑(List.length l_941) : Int) then
          if (List.length (Prod.snd s_950) + List.length ((fun (x : List (Ty.T (Ty.prod Ty.str (Ty.prod Ty.str Ty.bool)))) => x) [(Prod.fst (List.getD l_941 (Int.toNat (Prod.fst s_950)) ([], [], Bool.false)), Prod.fst (Prod.snd (List.getD l_941 (Int.toNat (Prod.fst s_950)) ([], [], Bool.false))), Prod.snd (Prod.snd (List.getD l_941 (Int.toNat (Prod.fst s_950)) ([], [], Bool.false))))])) * (40 : Nat) ≤ (17592186044416 : Nat) then
            some (Sum.inl (IntKind.wrap IntKind.i64 (Prod.fst s_950 + (1 : Int)), Prod.snd s_950 ++ [(Prod.fst (List.getD l_941 (Int.toNat (Prod.fst s_950)) ([], [], Bool.false)), Prod.fst (Prod.snd (List.getD l_941 (Int.toNat (Prod.fst s_950)) ([], [], Bool.false))), Prod.snd (Prod.snd (List.getD l_941 (Int.toNat (Prod.fst s_950)) ([], [], Bool.false))))]))
          else none
        else none
      else
        some (Sum.inl (IntKind.wrap IntKind.i64 (Prod.fst s_950 + (1 : Int)), Prod.snd s_950))
    else none
  else
    some (Sum.inr (Prod.snd s_950))

noncomputable def cellarerref12_Of (l_936 : List (List UInt8 × List UInt8 × Bool)) (pkg_937 : List UInt8) : Option (List (List UInt8 × List UInt8 × Bool)) :=
  (iter (cellarerref12_Of_b0 (l_936) (pkg_937)) ((0 : Int), [])).bind (fun t_946 =>
    some (t_946))

def trigs_For_1_res (r : Bool × List UInt8) : AV := (fun (r_968 : Bool × List UInt8) => AV.bool (Prod.fst r_968)) r

def trigs_For_1_out (r : Bool × List UInt8) : List AO := (fun (r_968 : Bool × List UInt8) => [AO.box [AV.str (Prod.snd r_968)]]) r

noncomputable def trigs_For_1 (x_962 : List UInt8) (x_963 : List UInt8) (x_964 : Bool) (o0_965 : List UInt8) : Option (Bool × List UInt8) :=
  some (Decidable.decide (x_962 = o0_965), o0_965)

def trigs_some_v2_res (r : List UInt8 × List (List UInt8 × List UInt8 × Bool)) : AV := (fun (r_982 : List UInt8 × List (List UInt8 × List UInt8 × Bool)) => AV.view (1 : Nat) (0 : Nat) Option.none) r

def trigs_some_v2_out (r : List UInt8 × List (List UInt8 × List UInt8 × Bool)) : List AO := (fun (r_982 : List UInt8 × List (List UInt8 × List UInt8 × Bool)) => [AO.box [AV.str (Prod.fst r_982)], AO.row (Ty.prod Ty.str (Ty.prod Ty.str Ty.bool)) (Prod.snd r_982)]) r

noncomputable def trigs_some_v2_b0 (t_970 : List (List UInt8 × List UInt8 × Bool)) (t_971 : Int) (s_983 : Int × List UInt8 × List (List UInt8 × List UInt8 × Bool)) : Option ((Int × List UInt8 × List (List UInt8 × List UInt8 × Bool)) ⊕ (List UInt8 × List (List UInt8 × List UInt8 × Bool))) :=
  bif Decidable.decide (Prod.fst s_983 < t_971) then
    if (0 : Int) ≤ Prod.fst s_983 ∧ Prod.fst s_983 < (↑(List.length t_970) : Int) then
      (trigs_For_1 (Prod.fst (List.getD t_970 (Int.toNat (Prod.fst s_983)) ([], [], Bool.false))) (Prod.fst (Prod.snd (List.getD t_970 (Int.toNat (Prod.fst s_983)) ([], [], Bool.false)))) (Prod.snd (Prod.snd (List.getD t_970 (Int.toNat (Prod.fst s_983)) ([], [], Bool.false)))) (Prod.fst (Prod.snd s_983))).bind fun a_975 =>
        bif Prod.fst a_975 then
          if (List.length (Prod.snd (Prod.snd s_983)) + List.length ((fun (x : List (Ty.T (Ty.prod Ty.str (Ty.prod Ty.str Ty.bool)))) => x) [(Prod.fst (List.getD t_970 (Int.toNat (Prod.fst s_983)) ([], [], Bool.false)), Prod.fst (Prod.snd (List.getD t_970 (Int.toNat (Prod.fst s_983)) ([], [], Bool.false))), Prod.snd (Prod.snd (List.getD t_970 (Int.toNat (Prod.fst s_983)) ([], [], Bool.false))))])) * (40 : Nat) ≤ (17592186044416 : Nat) then
            some (Sum.inl (IntKind.wrap IntKind.i64 (Prod.fst s_983 + (1 : Int)), Prod.snd a_975, Prod.snd (Prod.snd s_983) ++ [(Prod.fst (List.getD t_970 (Int.toNat (Prod.fst s_983)) ([], [], Bool.false)), Prod.fst (Prod.snd (List.getD t_970 (Int.toNat (Prod.fst s_983)) ([], [], Bool.false))), Prod.snd (Prod.snd (List.getD t_970 (Int.toNat (Prod.fst s_983)) ([], [], Bool.false))))]))
          else none
        else
          some (Sum.inl (IntKind.wrap IntKind.i64 (Prod.fst s_983 + (1 : Int)), Prod.snd a_975, Prod.snd (Prod.snd s_983)))
    else none
  else
    some (Sum.inr (Prod.fst (Prod.snd s_983), Prod.snd (Prod.snd s_983)))

noncomputable def trigs_some_v2 (l_956 : List (List UInt8 × List UInt8 × Bool)) (o0_957 : List UInt8) : Option (List UInt8 × List (List UInt8 × List UInt8 × Bool)) :=
  (iter (trigs_some_v2_b0 (l_956) ((↑(List.length l_956) : Int))) ((0 : Int), o0_957, [])).bind (fun t_978 =>
    some (Prod.fst t_978, Prod.snd t_978))

def trigs_For_res (r : List (List UInt8 × List UInt8 × Bool)) : AV := (fun (r_987 : List (List UInt8 × List UInt8 × Bool)) => AV.view (0 : Nat) (0 : Nat) Option.none) r

def trigs_For_out (r : List (List UInt8 × List UInt8 × Bool)) : List AO := (fun (r_987 : List (List UInt8 × List UInt8 × Bool)) => [AO.row (Ty.prod Ty.str (Ty.prod Ty.str Ty.bool)) r_987]) r

noncomputable def trigs_For (l_954 : List (List UInt8 × List UInt8 × Bool)) (trigger_955 : List UInt8) : Option (List (List UInt8 × List UInt8 × Bool)) :=
  (trigs_some_v2 (l_954) (trigger_955)).bind fun a_985 =>
    some (Prod.snd a_985)

def cellarerlaw12_TrigsSets_res (r : Bool) : AV := (fun (r_1020 : Bool) => AV.bool r_1020) r

def cellarerlaw12_TrigsSets_out (r : Bool) : List AO := (fun (r_1020 : Bool) => []) r

noncomputable def cellarerlaw12_TrigsSets (l_993 : List (List UInt8 × List UInt8 × Bool)) (pkg_994 : List UInt8) (own_995 : List (List UInt8 × List UInt8 × Bool)) : Option (Bool) :=
  Option.bind (α := Bool ⊕ Unit) (
    (cellarerlaw12_Few (l_993)).bind fun a_996 =>
      bif !a_996 then
        (cellarerlaw12_awake ).bind fun a_997 =>
          some (Sum.inl (a_997))
      else
        (cellarerlaw12_Few (own_995)).bind fun a_998 =>
          bif !a_998 then
            (cellarerlaw12_awake ).bind fun a_999 =>
              some (Sum.inl (a_999))
          else
            bif Decidable.decide ((300 : Int) < (↑(List.length pkg_994) : Int)) then
              (cellarerlaw12_awake ).bind fun a_1000 =>
                some (Sum.inl (a_1000))
            else
              some (Sum.inr ())) (Sum.elim (fun t_1002 =>
    some (t_1002)) (fun t_1003 =>
    (trigs_Set (l_993) (pkg_994) (own_995)).bind fun a_1004 =>
      Option.bind (α := Unit ⊕ Unit) (
        (cellarerref12_Set (l_993) (pkg_994) (own_995)).bind fun a_1005 =>
          (cellarerref12_Same (List.drop (0 : Nat) a_1004) (List.drop (0 : Nat) a_1005)).bind fun a_1006 =>
            bif !a_1006 then
              some (Sum.inl ())
            else
              (trigs_Of (l_993) (pkg_994)).bind fun a_1007 =>
                (cellarerref12_Of (l_993) (pkg_994)).bind fun a_1008 =>
                  (cellarerref12_Same (List.drop (0 : Nat) a_1007) (List.drop (0 : Nat) a_1008)).bind fun a_1009 =>
                    bif !a_1009 then
                      some (Sum.inl ())
                    else
                      (trigs_For (l_993) (pkg_994)).bind fun a_1010 =>
                        (cellarerref12_For (l_993) (pkg_994)).bind fun a_1011 =>
                          (cellarerref12_Same (List.drop (0 : Nat) a_1010) (List.drop (0 : Nat) a_1011)).bind fun a_1012 =>
                            bif !a_1012 then
                              some (Sum.inl ())
                            else
                              some (Sum.inr ())) (Sum.elim (fun t_1013 =>
        some (Bool.false)) (fun t_1014 =>
        (trigs_Of (List.drop (0 : Nat) a_1004) (pkg_994)).bind fun a_1015 =>
          bif Decidable.decide ((↑(List.length a_1015) : Int) - (↑(0 : Nat) : Int) ≤ (↑(List.length own_995) : Int)) then
            (cellarerlaw12_awake ).bind fun a_1016 =>
              some (a_1016)
          else
            some (Bool.false)))))

end Go.Cellar
