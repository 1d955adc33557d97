/- The program's functions, as plain Lean functions: printed by a program out of the translation. No condition. -/
import Derived.Test.YtlhpgbaclbkjiaaDoorIns9
set_option maxRecDepth 4000
set_option synthInstance.maxHeartbeats 2000000
set_option synthInstance.maxSize 100000
set_option linter.unusedVariables false
namespace Go.Cellar
open Go

def path_Name_res (r : Bool) : AV := (fun (r_15 : Bool) => AV.bool r_15) r

def path_Name_out (r : Bool) : List AO := (fun (r_15 : Bool) => []) r

noncomputable def path_Name_b0 (s_4 : List UInt8) (t_5 : Int) (s_16 : Int) : Option ((Int) ⊕ (Unit ⊕ Unit)) :=
  bif Decidable.decide (s_16 < t_5) then
    if (0 : Int) ≤ s_16 ∧ s_16 < (↑(List.length s_4) : Int) then
      Option.bind (α := Bool) (
        bif Decidable.decide ((97 : Int) ≤ (↑(UInt8.toNat (List.getD s_4 (Int.toNat s_16) (0 : UInt8))) : Int)) then
          bif Decidable.decide ((↑(UInt8.toNat (List.getD s_4 (Int.toNat s_16) (0 : UInt8))) : Int) ≤ (122 : Int)) then
            some (Bool.true)
          else
            bif Decidable.decide ((48 : Int) ≤ (↑(UInt8.toNat (List.getD s_4 (Int.toNat s_16) (0 : UInt8))) : Int)) then
              some (Decidable.decide ((↑(UInt8.toNat (List.getD s_4 (Int.toNat s_16) (0 : UInt8))) : Int) ≤ (57 : Int)))
            else
              some (Bool.false)
        else
          bif Decidable.decide ((48 : Int) ≤ (↑(UInt8.toNat (List.getD s_4 (Int.toNat s_16) (0 : UInt8))) : Int)) then
            some (Decidable.decide ((↑(UInt8.toNat (List.getD s_4 (Int.toNat s_16) (0 : UInt8))) : Int) ≤ (57 : Int)))
          else
            some (Bool.false)) (fun t_8 =>
        bif !t_8 then
          bif Decidable.decide (s_16 = (0 : Int)) then
            some (Sum.inr (Sum.inl ()))
          else
            bif !Decidable.decide ((↑(UInt8.toNat (List.getD s_4 (Int.toNat s_16) (0 : UInt8))) : Int) = (43 : Int)) then
              bif !Decidable.decide ((↑(UInt8.toNat (List.getD s_4 (Int.toNat s_16) (0 : UInt8))) : Int) = (45 : Int)) then
                bif !Decidable.decide ((↑(UInt8.toNat (List.getD s_4 (Int.toNat s_16) (0 : UInt8))) : Int) = (46 : Int)) then
                  some (Sum.inr (Sum.inl ()))
                else
                  some (Sum.inl (IntKind.wrap IntKind.i64 (s_16 + (1 : Int))))
              else
                some (Sum.inl (IntKind.wrap IntKind.i64 (s_16 + (1 : Int))))
            else
              some (Sum.inl (IntKind.wrap IntKind.i64 (s_16 + (1 : Int))))
        else
          some (Sum.inl (IntKind.wrap IntKind.i64 (s_16 + (1 : Int)))))
    else none
  else
    some (Sum.inr (Sum.inr ()))

noncomputable def path_Name (s_1 : List UInt8) : Option (Bool) :=
  Option.bind (α := Unit ⊕ Unit) (
    bif Decidable.decide ((↑(List.length s_1) : Int) = (0 : Int)) then
      some (Sum.inl ())
    else
      bif Decidable.decide ((60 : Int) < (↑(List.length s_1) : Int)) then
        some (Sum.inl ())
      else
        some (Sum.inr ())) (Sum.elim (fun t_2 =>
    some (Bool.false)) (fun t_3 =>
    (iter (path_Name_b0 (s_1) ((↑(List.length s_1) : Int))) ((0 : Int))).bind (Sum.elim (fun t_10 =>
      some (Bool.false)) (fun t_11 =>
      some (Bool.true)))))

def cellarerref02_Name_res (r : Bool) : AV := (fun (r_35 : Bool) => AV.bool r_35) r

def cellarerref02_Name_out (r : Bool) : List AO := (fun (r_35 : Bool) => []) r

noncomputable def cellarerref02_Name_b0 (s_20 : List UInt8) (s_36 : Int) : Option ((Int) ⊕ (Unit ⊕ Unit)) :=
  bif Decidable.decide (s_36 < (↑(List.length s_20) : Int)) then
    if (0 : Int) ≤ s_36 ∧ s_36 < (↑(List.length s_20) : Int) then
      Option.bind (α := Bool) (
        bif Decidable.decide ((97 : Int) ≤ (↑(UInt8.toNat (List.getD s_20 (Int.toNat s_36) (0 : UInt8))) : Int)) then
          some (Decidable.decide ((↑(UInt8.toNat (List.getD s_20 (Int.toNat s_36) (0 : UInt8))) : Int) ≤ (122 : Int)))
        else
          some (Bool.false)) (fun t_23 =>
        Option.bind (α := Bool) (
          bif Decidable.decide ((48 : Int) ≤ (↑(UInt8.toNat (List.getD s_20 (Int.toNat s_36) (0 : UInt8))) : Int)) then
            some (Decidable.decide ((↑(UInt8.toNat (List.getD s_20 (Int.toNat s_36) (0 : UInt8))) : Int) ≤ (57 : Int)))
          else
            some (Bool.false)) (fun t_25 =>
          Option.bind (α := Bool) (
            bif Decidable.decide ((↑(UInt8.toNat (List.getD s_20 (Int.toNat s_36) (0 : UInt8))) : Int) = (43 : Int)) then
              some (Bool.true)
            else
              bif Decidable.decide ((↑(UInt8.toNat (List.getD s_20 (Int.toNat s_36) (0 : UInt8))) : Int) = (45 : Int)) then
                some (Bool.true)
              else
                some (Decidable.decide ((↑(UInt8.toNat (List.getD s_20 (Int.toNat s_36) (0 : UInt8))) : Int) = (46 : Int)))) (fun t_27 =>
            bif !t_23 then
              bif !t_25 then
                bif !t_27 then
                  some (Sum.inr (Sum.inl ()))
                else
                  bif t_27 then
                    bif Decidable.decide (s_36 = (0 : Int)) then
                      some (Sum.inr (Sum.inl ()))
                    else
                      some (Sum.inl (IntKind.wrap IntKind.i64 (s_36 + (1 : Int))))
                  else
                    some (Sum.inl (IntKind.wrap IntKind.i64 (s_36 + (1 : Int))))
              else
                bif t_27 then
                  bif Decidable.decide (s_36 = (0 : Int)) then
                    some (Sum.inr (Sum.inl ()))
                  else
                    some (Sum.inl (IntKind.wrap IntKind.i64 (s_36 + (1 : Int))))
                else
                  some (Sum.inl (IntKind.wrap IntKind.i64 (s_36 + (1 : Int))))
            else
              bif t_27 then
                bif Decidable.decide (s_36 = (0 : Int)) then
                  some (Sum.inr (Sum.inl ()))
                else
                  some (Sum.inl (IntKind.wrap IntKind.i64 (s_36 + (1 : Int))))
              else
                some (Sum.inl (IntKind.wrap IntKind.i64 (s_36 + (1 : Int)))))))
    else none
  else
    some (Sum.inr (Sum.inr ()))

noncomputable def cellarerref02_Name (s_19 : List UInt8) : Option (Bool) :=
  (iter (cellarerref02_Name_b0 (s_19)) ((0 : Int))).bind (Sum.elim (fun t_31 =>
    some (Bool.false)) (fun t_32 =>
    bif Decidable.decide ((1 : Int) ≤ (↑(List.length s_19) : Int)) then
      some (Decidable.decide ((↑(List.length s_19) : Int) ≤ (60 : Int)))
    else
      some (Bool.false)))

def stringslite_HasSuffix_res (r : Bool) : AV := (fun (r_45 : Bool) => AV.bool r_45) r

def stringslite_HasSuffix_out (r : Bool) : List AO := (fun (r_45 : Bool) => []) r

noncomputable def stringslite_HasSuffix (s_42 : List UInt8) (suffix_43 : List UInt8) : Option (Bool) :=
  bif Decidable.decide ((↑(List.length suffix_43) : Int) ≤ (↑(List.length s_42) : Int)) then
    if (0 : Int) ≤ IntKind.wrap IntKind.i64 ((↑(List.length s_42) : Int) - (↑(List.length suffix_43) : Int)) ∧ IntKind.wrap IntKind.i64 ((↑(List.length s_42) : Int) - (↑(List.length suffix_43) : Int)) ≤ (↑(List.length s_42) : Int) ∧ (↑(List.length s_42) : Int) ≤ (↑(List.length s_42) : Int) then
      some (Decidable.decide (List.drop (Int.toNat (IntKind.wrap IntKind.i64 ((↑(List.length s_42) : Int) - (↑(List.length suffix_43) : Int)))) (List.take (Int.toNat (↑(List.length s_42) : Int)) s_42) = suffix_43))
    else none
  else
    some (Bool.false)

def strings_HasSuffix_res (r : Bool) : AV := (fun (r_48 : Bool) => AV.bool r_48) r

def strings_HasSuffix_out (r : Bool) : List AO := (fun (r_48 : Bool) => []) r

noncomputable def strings_HasSuffix (s_40 : List UInt8) (suffix_41 : List UInt8) : Option (Bool) :=
  (stringslite_HasSuffix (s_40) (suffix_41)).bind fun a_46 =>
    some (a_46)

def stringslite_IndexByte_res (r : Int) : AV := (fun (r_81 : Int) => AV.int IntKind.i64 r_81) r

def stringslite_IndexByte_out (r : Int) : List AO := (fun (r_81 : Int) => []) r

noncomputable def stringslite_IndexByte (s_78 : List UInt8) (c_79 : Int) : Option (Int) :=
  if (0 : Int) ≤ c_79 ∧ c_79 < (256 : Int) then
    some (idxByte c_79 s_78 (0 : Int))
  else none

def stringslite_Index_res (r : Int) : AV := (fun (r_90 : Int) => AV.int IntKind.i64 r_90) r

def stringslite_Index_out (r : Int) : List AO := (fun (r_90 : Int) => []) r

noncomputable def stringslite_Index (s_83 : List UInt8) (substr_84 : List UInt8) : Option (Int) :=
  Option.bind (α := Int) (
    bif Decidable.decide ((↑(List.length substr_84) : Int) = (0 : Int)) then
      some ((0 : Int))
    else
      bif Decidable.decide (substr_84 = s_83) then
        some ((0 : Int))
      else
        bif Decidable.decide ((↑(List.length substr_84) : Int) = (1 : Int)) then
          if (0 : Int) ≤ (0 : Int) ∧ (0 : Int) < (↑(List.length substr_84) : Int) then
            (stringslite_IndexByte (s_83) ((↑(UInt8.toNat (List.getD substr_84 (Int.toNat (0 : Int)) (0 : UInt8))) : Int))).bind fun a_85 =>
              some (a_85)
          else none
        else
          bif Decidable.decide ((↑(List.length s_83) : Int) ≤ (↑(List.length substr_84) : Int)) then
            some ((-1 : Int))
          else
            none) (fun t_87 =>
    some (t_87))

def strings_Index_res (r : Int) : AV := (fun (r_93 : Int) => AV.int IntKind.i64 r_93) r

def strings_Index_out (r : Int) : List AO := (fun (r_93 : Int) => []) r

noncomputable def strings_Index (s_74 : List UInt8) (substr_75 : List UInt8) : Option (Int) :=
  (stringslite_Index (s_74) (substr_75)).bind fun a_91 =>
    some (a_91)

def strings_Count_res (r : Int) : AV := (fun (r_99 : Int) => AV.int IntKind.i64 r_99) r

def strings_Count_out (r : Int) : List AO := (fun (r_99 : Int) => []) r

noncomputable def strings_Count_b0 (substr_72 : List UInt8) (s_100 : List UInt8 × Int) : Option ((List UInt8 × Int) ⊕ (Int)) :=
  (strings_Index (Prod.fst s_100) (substr_72)).bind fun a_94 =>
    bif Decidable.decide (a_94 = (-1 : Int)) then
      some (Sum.inr (Prod.snd s_100))
    else
      if (0 : Int) ≤ IntKind.wrap IntKind.i64 (a_94 + (↑(List.length substr_72) : Int)) ∧ IntKind.wrap IntKind.i64 (a_94 + (↑(List.length substr_72) : Int)) ≤ (↑(List.length (Prod.fst s_100)) : Int) ∧ (↑(List.length (Prod.fst s_100)) : Int) ≤ (↑(List.length (Prod.fst s_100)) : Int) then
        some (Sum.inl (List.drop (Int.toNat (IntKind.wrap IntKind.i64 (a_94 + (↑(List.length substr_72) : Int)))) (List.take (Int.toNat (↑(List.length (Prod.fst s_100)) : Int)) (Prod.fst s_100)), IntKind.wrap IntKind.i64 (Prod.snd s_100 + (1 : Int))))
      else none

noncomputable def strings_Count (s_69 : List UInt8) (substr_70 : List UInt8) : Option (Int) :=
  bif Decidable.decide ((↑(List.length substr_70) : Int) = (0 : Int)) then
    none
  else
    bif Decidable.decide ((↑(List.length substr_70) : Int) = (1 : Int)) then
      if (0 : Int) ≤ (0 : Int) ∧ (0 : Int) < (↑(List.length substr_70) : Int) then
        some ((↑(List.count (Nat.toUInt8 (Int.toNat (↑(UInt8.toNat (List.getD substr_70 (Int.toNat (0 : Int)) (0 : UInt8))) : Int))) s_69) : Int))
      else none
    else
      (iter (strings_Count_b0 (substr_70)) (s_69, (0 : Int))).bind (fun t_96 =>
        some (t_96))

def strings_genSplit_res (r : List (List UInt8)) : AV := (fun (r_119 : List (List UInt8)) => AV.view (0 : Nat) (0 : Nat) Option.none) r

def strings_genSplit_out (r : List (List UInt8)) : List AO := (fun (r_119 : List (List UInt8)) => [AO.row Ty.str r_119]) r

noncomputable def strings_genSplit_b0 (sep_106 : List UInt8) (sepSave_107 : Int) (n_108 : Int) (s_120 : List UInt8 × Int × List (List UInt8)) : Option ((List UInt8 × Int × List (List UInt8)) ⊕ (List UInt8 × Int × List (List UInt8))) :=
  bif Decidable.decide (Prod.fst (Prod.snd s_120) < n_108) then
    (strings_Index (Prod.fst s_120) (sep_106)).bind fun a_111 =>
      bif Decidable.decide (a_111 < (0 : Int)) then
        some (Sum.inr (Prod.fst s_120, Prod.fst (Prod.snd s_120), Prod.snd (Prod.snd s_120)))
      else
        if (0 : Int) ≤ (0 : Int) ∧ (0 : Int) ≤ IntKind.wrap IntKind.i64 (a_111 + sepSave_107) ∧ IntKind.wrap IntKind.i64 (a_111 + sepSave_107) ≤ (↑(List.length (Prod.fst s_120)) : Int) then
          if (0 : Int) ≤ Prod.fst (Prod.snd s_120) ∧ Prod.fst (Prod.snd s_120) + (↑(0 : Nat) : Int) < (↑(List.length (Prod.snd (Prod.snd s_120))) : Int) then
            if (0 : Nat) + Int.toNat (Prod.fst (Prod.snd s_120)) < List.length (Prod.snd (Prod.snd s_120)) then
              if (0 : Int) ≤ IntKind.wrap IntKind.i64 (a_111 + (↑(List.length sep_106) : Int)) ∧ IntKind.wrap IntKind.i64 (a_111 + (↑(List.length sep_106) : Int)) ≤ (↑(List.length (Prod.fst s_120)) : Int) ∧ (↑(List.length (Prod.fst s_120)) : Int) ≤ (↑(List.length (Prod.fst s_120)) : Int) then
                some (Sum.inl (List.drop (Int.toNat (IntKind.wrap IntKind.i64 (a_111 + (↑(List.length sep_106) : Int)))) (List.take (Int.toNat (↑(List.length (Prod.fst s_120)) : Int)) (Prod.fst s_120)), IntKind.wrap IntKind.i64 (Prod.fst (Prod.snd s_120) + (1 : Int)), List.set (Prod.snd (Prod.snd s_120)) ((0 : Nat) + Int.toNat (Prod.fst (Prod.snd s_120))) (List.drop (Int.toNat (0 : Int)) (List.take (Int.toNat (IntKind.wrap IntKind.i64 (a_111 + sepSave_107))) (Prod.fst s_120)))))
              else none
            else none
          else none
        else none
  else
    some (Sum.inr (Prod.fst s_120, Prod.fst (Prod.snd s_120), Prod.snd (Prod.snd s_120)))

noncomputable def strings_genSplit (s_63 : List UInt8) (sep_64 : List UInt8) (sepSave_65 : Int) (n_66 : Int) : Option (List (List UInt8)) :=
  bif Decidable.decide (n_66 = (0 : Int)) then
    some ([])
  else
    bif Decidable.decide (sep_64 = []) then
      none
    else
      Option.bind (α := Int) (
        bif Decidable.decide (n_66 < (0 : Int)) then
          (strings_Count (s_63) (sep_64)).bind fun a_102 =>
            some (IntKind.wrap IntKind.i64 (a_102 + (1 : Int)))
        else
          some (n_66)) (fun t_104 =>
        if ((0 : Int) ≤ if IntKind.wrap IntKind.i64 ((↑(List.length s_63) : Int) + (1 : Int)) < t_104 then IntKind.wrap IntKind.i64 ((↑(List.length s_63) : Int) + (1 : Int)) else t_104) ∧ ((if IntKind.wrap IntKind.i64 ((↑(List.length s_63) : Int) + (1 : Int)) < t_104 then IntKind.wrap IntKind.i64 ((↑(List.length s_63) : Int) + (1 : Int)) else t_104) ≤ if IntKind.wrap IntKind.i64 ((↑(List.length s_63) : Int) + (1 : Int)) < t_104 then IntKind.wrap IntKind.i64 ((↑(List.length s_63) : Int) + (1 : Int)) else t_104) ∧ (if IntKind.wrap IntKind.i64 ((↑(List.length s_63) : Int) + (1 : Int)) < t_104 then IntKind.wrap IntKind.i64 ((↑(List.length s_63) : Int) + (1 : Int)) else t_104) ≤ (140737488355328 : Int) ∧ ((↑(16 : Nat) : Int) * if IntKind.wrap IntKind.i64 ((↑(List.length s_63) : Int) + (1 : Int)) < t_104 then IntKind.wrap IntKind.i64 ((↑(List.length s_63) : Int) + (1 : Int)) else t_104) ≤ (140737488355328 : Int) then
          (iter (strings_genSplit_b0 (sep_64) (sepSave_65) (IntKind.wrap IntKind.i64 ((if IntKind.wrap IntKind.i64 ((↑(List.length s_63) : Int) + (1 : Int)) < t_104 then IntKind.wrap IntKind.i64 ((↑(List.length s_63) : Int) + (1 : Int)) else t_104) - (1 : Int)))) (s_63, (0 : Int), List.replicate (Int.toNat (if IntKind.wrap IntKind.i64 ((↑(List.length s_63) : Int) + (1 : Int)) < t_104 then IntKind.wrap IntKind.i64 ((↑(List.length s_63) : Int) + (1 : Int)) else t_104)) [])).bind (fun t_115 =>
            if (0 : Int) ≤ Prod.fst (Prod.snd t_115) ∧ Prod.fst (Prod.snd t_115) + (↑(0 : Nat) : Int) < (↑(List.length (Prod.snd (Prod.snd t_115))) : Int) then
              if (0 : Nat) + Int.toNat (Prod.fst (Prod.snd t_115)) < List.length (Prod.snd (Prod.snd t_115)) then
                if (0 : Int) ≤ (0 : Int) ∧ (0 : Int) ≤ IntKind.wrap IntKind.i64 (Prod.fst (Prod.snd t_115) + (1 : Int)) ∧ (↑(0 : Nat) : Int) + IntKind.wrap IntKind.i64 (Prod.fst (Prod.snd t_115) + (1 : Int)) ≤ (↑(List.length (List.set (Prod.snd (Prod.snd t_115)) ((0 : Nat) + Int.toNat (Prod.fst (Prod.snd t_115))) (Prod.fst t_115))) : Int) then
                  some (List.take ((0 : Nat) + Int.toNat (IntKind.wrap IntKind.i64 (Prod.fst (Prod.snd t_115) + (1 : Int)))) (List.set (Prod.snd (Prod.snd t_115)) ((0 : Nat) + Int.toNat (Prod.fst (Prod.snd t_115))) (Prod.fst t_115)))
                else none
              else none
            else none)
        else none)

def strings_Split_res (r : List (List UInt8)) : AV := (fun (r_124 : List (List UInt8)) => AV.view (0 : Nat) (0 : Nat) Option.none) r

def strings_Split_out (r : List (List UInt8)) : List AO := (fun (r_124 : List (List UInt8)) => [AO.row Ty.str r_124]) r

noncomputable def strings_Split (s_51 : List UInt8) (sep_52 : List UInt8) : Option (List (List UInt8)) :=
  (strings_genSplit (s_51) (sep_52) ((0 : Int)) ((-1 : Int))).bind fun a_122 =>
    some (a_122)

def cellarerref02_Parts_res (r : List (List UInt8)) : AV := (fun (r_139 : List (List UInt8)) => AV.view (0 : Nat) (0 : Nat) Option.none) r

def cellarerref02_Parts_out (r : List (List UInt8)) : List AO := (fun (r_139 : List (List UInt8)) => [AO.row Ty.str r_139]) r

noncomputable def cellarerref02_Parts_b0 (s_130 : List UInt8) (s_140 : List UInt8 × Int × List (List UInt8)) : Option ((List UInt8 × Int × List (List UInt8)) ⊕ (List UInt8 × List (List UInt8))) :=
  bif Decidable.decide (Prod.fst (Prod.snd s_140) < (↑(List.length s_130) : Int)) then
    if (0 : Int) ≤ Prod.fst (Prod.snd s_140) ∧ Prod.fst (Prod.snd s_140) < (↑(List.length s_130) : Int) then
      bif !Decidable.decide ((↑(UInt8.toNat (List.getD s_130 (Int.toNat (Prod.fst (Prod.snd s_140))) (0 : UInt8))) : Int) = (47 : Int)) then
        if (0 : Int) ≤ Prod.fst (Prod.snd s_140) ∧ Prod.fst (Prod.snd s_140) ≤ IntKind.wrap IntKind.i64 (Prod.fst (Prod.snd s_140) + (1 : Int)) ∧ IntKind.wrap IntKind.i64 (Prod.fst (Prod.snd s_140) + (1 : Int)) ≤ (↑(List.length s_130) : Int) then
          if List.length (Prod.fst s_140) + List.length (List.drop (Int.toNat (Prod.fst (Prod.snd s_140))) (List.take (Int.toNat (IntKind.wrap IntKind.i64 (Prod.fst (Prod.snd s_140) + (1 : Int)))) s_130)) ≤ (140737488355328 : Nat) then
            some (Sum.inl (Prod.fst s_140 ++ List.drop (Int.toNat (Prod.fst (Prod.snd s_140))) (List.take (Int.toNat (IntKind.wrap IntKind.i64 (Prod.fst (Prod.snd s_140) + (1 : Int)))) s_130), IntKind.wrap IntKind.i64 (Prod.fst (Prod.snd s_140) + (1 : Int)), Prod.snd (Prod.snd s_140)))
          else none
        else none
      else
        bif !Decidable.decide (Prod.fst s_140 = []) then
          if (List.length (Prod.snd (Prod.snd s_140)) + List.length ((fun (x : List (Ty.T Ty.str)) => x) [Prod.fst s_140])) * (16 : Nat) ≤ (17592186044416 : Nat) then
            some (Sum.inl ([], IntKind.wrap IntKind.i64 (Prod.fst (Prod.snd s_140) + (1 : Int)), Prod.snd (Prod.snd s_140) ++ [Prod.fst s_140]))
          else none
        else
          some (Sum.inl ([], IntKind.wrap IntKind.i64 (Prod.fst (Prod.snd s_140) + (1 : Int)), Prod.snd (Prod.snd s_140)))
    else none
  else
    some (Sum.inr (Prod.fst s_140, Prod.snd (Prod.snd s_140)))

noncomputable def cellarerref02_Parts (s_126 : List UInt8) : Option (List (List UInt8)) :=
  (iter (cellarerref02_Parts_b0 (s_126)) ([], (0 : Int), [])).bind (fun t_136 =>
    bif !Decidable.decide (Prod.fst t_136 = []) then
      if (List.length (Prod.snd t_136) + List.length ((fun (x : List (Ty.T Ty.str)) => x) [Prod.fst t_136])) * (16 : Nat) ≤ (17592186044416 : Nat) then
        some (Prod.snd t_136 ++ [Prod.fst t_136])
      else none
    else
      some (Prod.snd t_136))

def cellarerref02_Joined_res (r : List UInt8) : AV := (fun (r_151 : List UInt8) => AV.str r_151) r

def cellarerref02_Joined_out (r : List UInt8) : List AO := (fun (r_151 : List UInt8) => []) r

noncomputable def cellarerref02_Joined_b0 (l_144 : List (List UInt8)) (s_152 : List UInt8 × Int) : Option ((List UInt8 × Int) ⊕ (List UInt8)) :=
  bif Decidable.decide (Prod.snd s_152 < (↑(List.length l_144) : Int)) then
    if List.length (Prod.fst s_152) + List.length ((fun (x : List UInt8) => x) [(47 : UInt8)]) ≤ (140737488355328 : Nat) then
      if (0 : Int) ≤ Prod.snd s_152 ∧ Prod.snd s_152 < (↑(List.length l_144) : Int) then
        if List.length (Prod.fst s_152 ++ [(47 : UInt8)]) + List.length (List.getD l_144 (Int.toNat (Prod.snd s_152)) []) ≤ (140737488355328 : Nat) then
          some (Sum.inl (Prod.fst s_152 ++ [(47 : UInt8)] ++ List.getD l_144 (Int.toNat (Prod.snd s_152)) [], IntKind.wrap IntKind.i64 (Prod.snd s_152 + (1 : Int))))
        else none
      else none
    else none
  else
    some (Sum.inr (Prod.fst s_152))

noncomputable def cellarerref02_Joined (l_143 : List (List UInt8)) : Option (List UInt8) :=
  bif Decidable.decide ((↑(List.length l_143) : Int) = (0 : Int)) then
    some ([(47 : UInt8)])
  else
    (iter (cellarerref02_Joined_b0 (l_143)) ([], (0 : Int))).bind (fun t_148 =>
      some (t_148))

def cellarerref02_Clean_res (r : List UInt8 × Int) : AV := (fun (r_177 : List UInt8 × Int) => AV.tup [AV.str (Prod.fst r_177), AV.int IntKind.i64 (Prod.snd r_177)]) r

def cellarerref02_Clean_out (r : List UInt8 × Int) : List AO := (fun (r_177 : List UInt8 × Int) => []) r

noncomputable def cellarerref02_Clean_b0 (s_159 : List UInt8) (s_178 : Int) : Option ((Int) ⊕ (Unit ⊕ Unit)) :=
  bif Decidable.decide (s_178 < (↑(List.length s_159) : Int)) then
    if (0 : Int) ≤ s_178 ∧ s_178 < (↑(List.length s_159) : Int) then
      bif Decidable.decide ((↑(UInt8.toNat (List.getD s_159 (Int.toNat s_178) (0 : UInt8))) : Int) < (33 : Int)) then
        some (Sum.inr (Sum.inl ()))
      else
        if (0 : Int) ≤ s_178 ∧ s_178 < (↑(List.length s_159) : Int) then
          bif Decidable.decide ((126 : Int) < (↑(UInt8.toNat (List.getD s_159 (Int.toNat s_178) (0 : UInt8))) : Int)) then
            some (Sum.inr (Sum.inl ()))
          else
            some (Sum.inl (IntKind.wrap IntKind.i64 (s_178 + (1 : Int))))
        else none
    else none
  else
    some (Sum.inr (Sum.inr ()))

noncomputable def cellarerref02_Clean_b1 (o0_167 : List (List UInt8)) (s_179 : Int × List (List UInt8)) : Option ((Int × List (List UInt8)) ⊕ (List (List UInt8))) :=
  bif Decidable.decide (Prod.fst s_179 < (↑(List.length o0_167) : Int) - (↑(0 : Nat) : Int)) then
    if (0 : Int) ≤ Prod.fst s_179 ∧ Prod.fst s_179 + (↑(0 : Nat) : Int) < (↑(List.length o0_167) : Int) then
      if (0 : Nat) + Int.toNat (Prod.fst s_179) < List.length o0_167 then
        bif Decidable.decide (List.getD o0_167 ((0 : Nat) + Int.toNat (Prod.fst s_179)) [] = [(46 : UInt8), (46 : UInt8)]) then
          bif Decidable.decide ((0 : Int) < (↑(List.length (Prod.snd s_179)) : Int) - (↑(0 : Nat) : Int)) then
            if (0 : Int) ≤ (0 : Int) ∧ (0 : Int) ≤ IntKind.wrap IntKind.i64 ((↑(List.length (Prod.snd s_179)) : Int) - (↑(0 : Nat) : Int) - (1 : Int)) ∧ (↑(0 : Nat) : Int) + IntKind.wrap IntKind.i64 ((↑(List.length (Prod.snd s_179)) : Int) - (↑(0 : Nat) : Int) - (1 : Int)) ≤ (↑(List.length (Prod.snd s_179)) : Int) then
              some (Sum.inl (IntKind.wrap IntKind.i64 (Prod.fst s_179 + (1 : Int)), List.take ((0 : Nat) + Int.toNat (IntKind.wrap IntKind.i64 ((↑(List.length (Prod.snd s_179)) : Int) - (↑(0 : Nat) : Int) - (1 : Int)))) (Prod.snd s_179)))
            else none
          else
            some (Sum.inl (IntKind.wrap IntKind.i64 (Prod.fst s_179 + (1 : Int)), Prod.snd s_179))
        else
          if (0 : Int) ≤ Prod.fst s_179 ∧ Prod.fst s_179 + (↑(0 : Nat) : Int) < (↑(List.length o0_167) : Int) then
            if (0 : Nat) + Int.toNat (Prod.fst s_179) < List.length o0_167 then
              bif !Decidable.decide (List.getD o0_167 ((0 : Nat) + Int.toNat (Prod.fst s_179)) [] = [(46 : UInt8)]) then
                if (0 : Int) ≤ Prod.fst s_179 ∧ Prod.fst s_179 + (↑(0 : Nat) : Int) < (↑(List.length o0_167) : Int) then
                  if (0 : Nat) + Int.toNat (Prod.fst s_179) < List.length o0_167 then
                    if (List.length (Prod.snd s_179) + List.length ((fun (x : List (Ty.T Ty.str)) => x) [List.getD o0_167 ((0 : Nat) + Int.toNat (Prod.fst s_179)) []])) * (16 : Nat) ≤ (17592186044416 : Nat) then
                      some (Sum.inl (IntKind.wrap IntKind.i64 (Prod.fst s_179 + (1 : Int)), Prod.snd s_179 ++ [List.getD o0_167 ((0 : Nat) + Int.toNat (Prod.fst s_179)) []]))
                    else none
                  else none
                else none
              else
                some (Sum.inl (IntKind.wrap IntKind.i64 (Prod.fst s_179 + (1 : Int)), Prod.snd s_179))
            else none
          else none
      else none
    else none
  else
    some (Sum.inr (Prod.snd s_179))

noncomputable def cellarerref02_Clean (s_156 : List UInt8) : Option (List UInt8 × Int) :=
  Option.bind (α := Unit ⊕ Unit) (
    bif Decidable.decide ((↑(List.length s_156) : Int) = (0 : Int)) then
      some (Sum.inl ())
    else
      if (0 : Int) ≤ (0 : Int) ∧ (0 : Int) < (↑(List.length s_156) : Int) then
        bif !Decidable.decide ((↑(UInt8.toNat (List.getD s_156 (Int.toNat (0 : Int)) (0 : UInt8))) : Int) = (47 : Int)) then
          some (Sum.inl ())
        else
          some (Sum.inr ())
      else none) (Sum.elim (fun t_157 =>
    some ([], (1 : Int))) (fun t_158 =>
    (iter (cellarerref02_Clean_b0 (s_156)) ((0 : Int))).bind (Sum.elim (fun t_161 =>
      some ([], (1 : Int))) (fun t_162 =>
      (cellarerref02_Parts (s_156)).bind fun a_163 =>
        (iter (cellarerref02_Clean_b1 (a_163)) ((0 : Int), [])).bind (fun t_170 =>
          (cellarerref02_Joined (List.drop (0 : Nat) t_170)).bind fun a_171 =>
            bif Decidable.decide ((200 : Int) < (↑(List.length a_171) : Int)) then
              some ([], (8 : Int))
            else
              some (a_171, (0 : Int)))))))

def cellarerref02_Right_res (r : Bool) : AV := (fun (r_184 : Bool) => AV.bool r_184) r

def cellarerref02_Right_out (r : Bool) : List AO := (fun (r_184 : Bool) => []) r

noncomputable def cellarerref02_Right (s_155 : List UInt8) : Option (Bool) :=
  (cellarerref02_Clean (s_155)).bind fun a_182 =>
    bif Decidable.decide (Prod.snd a_182 = (0 : Int)) then
      some (Decidable.decide (Prod.fst a_182 = s_155))
    else
      some (Bool.false)

def stringslite_HasPrefix_res (r : Bool) : AV := (fun (r_199 : Bool) => AV.bool r_199) r

def stringslite_HasPrefix_out (r : Bool) : List AO := (fun (r_199 : Bool) => []) r

noncomputable def stringslite_HasPrefix (s_196 : List UInt8) (prefix_197 : List UInt8) : Option (Bool) :=
  bif Decidable.decide ((↑(List.length prefix_197) : Int) ≤ (↑(List.length s_196) : Int)) then
    if (0 : Int) ≤ (0 : Int) ∧ (0 : Int) ≤ (↑(List.length prefix_197) : Int) ∧ (↑(List.length prefix_197) : Int) ≤ (↑(List.length s_196) : Int) then
      some (Decidable.decide (List.drop (Int.toNat (0 : Int)) (List.take (Int.toNat (↑(List.length prefix_197) : Int)) s_196) = prefix_197))
    else none
  else
    some (Bool.false)

def strings_HasPrefix_res (r : Bool) : AV := (fun (r_202 : Bool) => AV.bool r_202) r

def strings_HasPrefix_out (r : Bool) : List AO := (fun (r_202 : Bool) => []) r

noncomputable def strings_HasPrefix (s_194 : List UInt8) (prefix_195 : List UInt8) : Option (Bool) :=
  (stringslite_HasPrefix (s_194) (prefix_195)).bind fun a_200 =>
    some (a_200)

def path_plain_res (r : Bool) : AV := (fun (r_206 : Bool) => AV.bool r_206) r

def path_plain_out (r : Bool) : List AO := (fun (r_206 : Bool) => []) r

noncomputable def path_plain_b0 (s_189 : List UInt8) (t_190 : Int) (s_207 : Int) : Option ((Int) ⊕ (Unit ⊕ Unit)) :=
  bif Decidable.decide (s_207 < t_190) then
    if (0 : Int) ≤ s_207 ∧ s_207 < (↑(List.length s_189) : Int) then
      bif Decidable.decide ((↑(UInt8.toNat (List.getD s_189 (Int.toNat s_207) (0 : UInt8))) : Int) < (33 : Int)) then
        some (Sum.inr (Sum.inl ()))
      else
        if (0 : Int) ≤ s_207 ∧ s_207 < (↑(List.length s_189) : Int) then
          bif Decidable.decide ((126 : Int) < (↑(UInt8.toNat (List.getD s_189 (Int.toNat s_207) (0 : UInt8))) : Int)) then
            some (Sum.inr (Sum.inl ()))
          else
            some (Sum.inl (IntKind.wrap IntKind.i64 (s_207 + (1 : Int))))
        else none
    else none
  else
    some (Sum.inr (Sum.inr ()))

noncomputable def path_plain (s_188 : List UInt8) : Option (Bool) :=
  (iter (path_plain_b0 (s_188) ((↑(List.length s_188) : Int))) ((0 : Int))).bind (Sum.elim (fun t_192 =>
    some (Bool.false)) (fun t_193 =>
    (strings_HasPrefix (s_188) ([(47 : UInt8)])).bind fun a_203 =>
      some (a_203)))

def path_Parts_1_res (r : Bool) : AV := (fun (r_218 : Bool) => AV.bool r_218) r

def path_Parts_1_out (r : Bool) : List AO := (fun (r_218 : Bool) => []) r

noncomputable def path_Parts_1 (p_216 : List UInt8) : Option (Bool) :=
  some (!Decidable.decide (p_216 = []))

def path_keep_string__res (r : List (List UInt8)) : AV := (fun (r_229 : List (List UInt8)) => AV.view (0 : Nat) (0 : Nat) Option.none) r

def path_keep_string__out (r : List (List UInt8)) : List AO := (fun (r_229 : List (List UInt8)) => [AO.row Ty.str r_229]) r

noncomputable def path_keep_string__b0 (t_220 : List (List UInt8)) (t_221 : Int) (s_230 : Int × List (List UInt8)) : Option ((Int × List (List UInt8)) ⊕ (List (List UInt8))) :=
  bif Decidable.decide (Prod.fst s_230 < t_221) then
    if (0 : Int) ≤ Prod.fst s_230 ∧ Prod.fst s_230 < (↑(List.length t_220) : Int) then
      (path_Parts_1 (List.getD t_220 (Int.toNat (Prod.fst s_230)) [])).bind fun a_224 =>
        bif a_224 then
          if (List.length (Prod.snd s_230) + List.length ((fun (x : List (Ty.T Ty.str)) => x) [List.getD t_220 (Int.toNat (Prod.fst s_230)) []])) * (16 : Nat) ≤ (17592186044416 : Nat) then
            some (Sum.inl (IntKind.wrap IntKind.i64 (Prod.fst s_230 + (1 : Int)), Prod.snd s_230 ++ [List.getD t_220 (Int.toNat (Prod.fst s_230)) []]))
          else none
        else
          some (Sum.inl (IntKind.wrap IntKind.i64 (Prod.fst s_230 + (1 : Int)), Prod.snd s_230))
    else none
  else
    some (Sum.inr (Prod.snd s_230))

noncomputable def path_keep_string_ (l_212 : List (List UInt8)) : Option (List (List UInt8)) :=
  (iter (path_keep_string__b0 (l_212) ((↑(List.length l_212) : Int))) ((0 : Int), [])).bind (fun t_226 =>
    some (t_226))

def path_Parts_res (r : List (List UInt8)) : AV := (fun (r_234 : List (List UInt8)) => AV.view (0 : Nat) (0 : Nat) Option.none) r

def path_Parts_out (r : List (List UInt8)) : List AO := (fun (r_234 : List (List UInt8)) => [AO.row Ty.str r_234]) r

noncomputable def path_Parts (s_210 : List UInt8) : Option (List (List UInt8)) :=
  (strings_Split (s_210) ([(47 : UInt8)])).bind fun a_211 =>
    (path_keep_string_ (List.drop (0 : Nat) a_211)).bind fun a_232 =>
      some (a_232)

def path_Clean_res (r : List UInt8 × Int) : AV := (fun (r_249 : List UInt8 × Int) => AV.tup [AV.str (Prod.fst r_249), AV.int IntKind.i64 (Prod.snd r_249)]) r

def path_Clean_out (r : List UInt8 × Int) : List AO := (fun (r_249 : List UInt8 × Int) => []) r

noncomputable def path_Clean_b0 (t_239 : Int) (o1_242 : List (List UInt8)) (s_250 : Int × List (List UInt8)) : Option ((Int × List (List UInt8)) ⊕ (List (List UInt8))) :=
  bif Decidable.decide (Prod.fst s_250 < t_239) then
    if (0 : Int) ≤ Prod.fst s_250 ∧ Prod.fst s_250 + (↑(0 : Nat) : Int) < (↑(List.length o1_242) : Int) then
      if (0 : Nat) + Int.toNat (Prod.fst s_250) < List.length o1_242 then
        bif Decidable.decide (List.getD o1_242 ((0 : Nat) + Int.toNat (Prod.fst s_250)) [] = [(46 : UInt8)]) then
          some (Sum.inl (IntKind.wrap IntKind.i64 (Prod.fst s_250 + (1 : Int)), Prod.snd s_250))
        else
          bif Decidable.decide (List.getD o1_242 ((0 : Nat) + Int.toNat (Prod.fst s_250)) [] = [(46 : UInt8), (46 : UInt8)]) then
            if (0 : Int) ≤ (0 : Int) ∧ (0 : Int) ≤ IntKind.wrap IntKind.i64 ((if (1 : Int) > (↑(List.length (Prod.snd s_250)) : Int) - (↑(0 : Nat) : Int) then (1 : Int) else (↑(List.length (Prod.snd s_250)) : Int) - (↑(0 : Nat) : Int)) - (1 : Int)) ∧ (↑(0 : Nat) : Int) + IntKind.wrap IntKind.i64 ((if (1 : Int) > (↑(List.length (Prod.snd s_250)) : Int) - (↑(0 : Nat) : Int) then (1 : Int) else (↑(List.length (Prod.snd s_250)) : Int) - (↑(0 : Nat) : Int)) - (1 : Int)) ≤ (↑(List.length (Prod.snd s_250)) : Int) then
              some (Sum.inl (IntKind.wrap IntKind.i64 (Prod.fst s_250 + (1 : Int)), List.take ((0 : Nat) + Int.toNat (IntKind.wrap IntKind.i64 ((if (1 : Int) > (↑(List.length (Prod.snd s_250)) : Int) - (↑(0 : Nat) : Int) then (1 : Int) else (↑(List.length (Prod.snd s_250)) : Int) - (↑(0 : Nat) : Int)) - (1 : Int)))) (Prod.snd s_250)))
            else none
          else
            if (List.length (Prod.snd s_250) + List.length ((fun (x : List (Ty.T Ty.str)) => x) [List.getD o1_242 ((0 : Nat) + Int.toNat (Prod.fst s_250)) []])) * (16 : Nat) ≤ (17592186044416 : Nat) then
              some (Sum.inl (IntKind.wrap IntKind.i64 (Prod.fst s_250 + (1 : Int)), Prod.snd s_250 ++ [List.getD o1_242 ((0 : Nat) + Int.toNat (Prod.fst s_250)) []]))
            else none
      else none
    else none
  else
    some (Sum.inr (Prod.snd s_250))

noncomputable def path_Clean (s_187 : List UInt8) : Option (List UInt8 × Int) :=
  (path_plain (s_187)).bind fun a_209 =>
    bif !a_209 then
      some ([], (1 : Int))
    else
      (path_Parts (s_187)).bind fun a_235 =>
        (iter (path_Clean_b0 ((↑(List.length a_235) : Int) - (↑(0 : Nat) : Int)) (a_235)) ((0 : Int), [])).bind (fun t_244 =>
          (strings_Join (List.drop (0 : Nat) t_244) ([(47 : UInt8)])).bind fun a_245 =>
            if List.length ((fun (x : List UInt8) => x) [(47 : UInt8)]) + List.length a_245 ≤ (140737488355328 : Nat) then
              bif Decidable.decide ((200 : Int) < (↑(List.length ([(47 : UInt8)] ++ a_245)) : Int)) then
                some ([], (8 : Int))
              else
                some ([(47 : UInt8)] ++ a_245, (0 : Int))
            else none)

def path_Right_res (r : Bool) : AV := (fun (r_254 : Bool) => AV.bool r_254) r

def path_Right_out (r : Bool) : List AO := (fun (r_254 : Bool) => []) r

noncomputable def path_Right (s_186 : List UInt8) : Option (Bool) :=
  (path_Clean (s_186)).bind fun a_252 =>
    bif Decidable.decide (Prod.snd a_252 = (0 : Int)) then
      some (Decidable.decide (Prod.fst a_252 = s_186))
    else
      some (Bool.false)

def stanza_Lines_res (r : Int × List (List UInt8)) : AV := (fun (r_261 : Int × List (List UInt8)) => AV.tup [AV.view (0 : Nat) (0 : Nat) Option.none, AV.int IntKind.i64 (Prod.fst r_261)]) r

def stanza_Lines_out (r : Int × List (List UInt8)) : List AO := (fun (r_261 : Int × List (List UInt8)) => [AO.row Ty.str (Prod.snd r_261)]) r

noncomputable def stanza_Lines (s_256 : List UInt8) : Option (Int × List (List UInt8)) :=
  bif Decidable.decide (s_256 = []) then
    some ((0 : Int), [])
  else
    (strings_HasSuffix (s_256) ([(10 : UInt8)])).bind fun a_257 =>
      bif !a_257 then
        some ((2 : Int), [])
      else
        if (0 : Int) ≤ (0 : Int) ∧ (0 : Int) ≤ IntKind.wrap IntKind.i64 ((↑(List.length s_256) : Int) - (1 : Int)) ∧ IntKind.wrap IntKind.i64 ((↑(List.length s_256) : Int) - (1 : Int)) ≤ (↑(List.length s_256) : Int) then
          (strings_Split (List.drop (Int.toNat (0 : Int)) (List.take (Int.toNat (IntKind.wrap IntKind.i64 ((↑(List.length s_256) : Int) - (1 : Int)))) s_256)) ([(10 : UInt8)])).bind fun a_258 =>
            some ((0 : Int), a_258)
        else none

def cellarerref06_Split_res (r : List (List UInt8)) : AV := (fun (r_280 : List (List UInt8)) => AV.view (0 : Nat) (0 : Nat) Option.none) r

def cellarerref06_Split_out (r : List (List UInt8)) : List AO := (fun (r_280 : List (List UInt8)) => [AO.row Ty.str r_280]) r

noncomputable def cellarerref06_Split_b0 (s_270 : List UInt8) (c_271 : Int) (s_281 : List UInt8 × Int × List (List UInt8)) : Option ((List UInt8 × Int × List (List UInt8)) ⊕ (List UInt8 × List (List UInt8))) :=
  bif Decidable.decide (Prod.fst (Prod.snd s_281) < (↑(List.length s_270) : Int)) then
    if (0 : Int) ≤ Prod.fst (Prod.snd s_281) ∧ Prod.fst (Prod.snd s_281) < (↑(List.length s_270) : Int) then
      bif Decidable.decide ((↑(UInt8.toNat (List.getD s_270 (Int.toNat (Prod.fst (Prod.snd s_281))) (0 : UInt8))) : Int) = c_271) then
        if (List.length (Prod.snd (Prod.snd s_281)) + List.length ((fun (x : List (Ty.T Ty.str)) => x) [Prod.fst s_281])) * (16 : Nat) ≤ (17592186044416 : Nat) then
          some (Sum.inl ([], IntKind.wrap IntKind.i64 (Prod.fst (Prod.snd s_281) + (1 : Int)), Prod.snd (Prod.snd s_281) ++ [Prod.fst s_281]))
        else none
      else
        if (0 : Int) ≤ Prod.fst (Prod.snd s_281) ∧ Prod.fst (Prod.snd s_281) ≤ IntKind.wrap IntKind.i64 (Prod.fst (Prod.snd s_281) + (1 : Int)) ∧ IntKind.wrap IntKind.i64 (Prod.fst (Prod.snd s_281) + (1 : Int)) ≤ (↑(List.length s_270) : Int) then
          if List.length (Prod.fst s_281) + List.length (List.drop (Int.toNat (Prod.fst (Prod.snd s_281))) (List.take (Int.toNat (IntKind.wrap IntKind.i64 (Prod.fst (Prod.snd s_281) + (1 : Int)))) s_270)) ≤ (140737488355328 : Nat) then
            some (Sum.inl (Prod.fst s_281 ++ List.drop (Int.toNat (Prod.fst (Prod.snd s_281))) (List.take (Int.toNat (IntKind.wrap IntKind.i64 (Prod.fst (Prod.snd s_281) + (1 : Int)))) s_270), IntKind.wrap IntKind.i64 (Prod.fst (Prod.snd s_281) + (1 : Int)), Prod.snd (Prod.snd s_281)))
          else none
        else none
    else none
  else
    some (Sum.inr (Prod.fst s_281, Prod.snd (Prod.snd s_281)))

noncomputable def cellarerref06_Split (s_264 : List UInt8) (c_265 : Int) : Option (List (List UInt8)) :=
  (iter (cellarerref06_Split_b0 (s_264) (c_265)) ([], (0 : Int), [])).bind (fun t_277 =>
    if (List.length (Prod.snd t_277) + List.length ((fun (x : List (Ty.T Ty.str)) => x) [Prod.fst t_277])) * (16 : Nat) ≤ (17592186044416 : Nat) then
      some (Prod.snd t_277 ++ [Prod.fst t_277])
    else none)

def cellarerref06_Lines_res (r : Bool × List (List UInt8)) : AV := (fun (r_288 : Bool × List (List UInt8)) => AV.tup [AV.view (0 : Nat) (0 : Nat) Option.none, AV.bool (Prod.fst r_288)]) r

def cellarerref06_Lines_out (r : Bool × List (List UInt8)) : List AO := (fun (r_288 : Bool × List (List UInt8)) => [AO.row Ty.str (Prod.snd r_288)]) r

noncomputable def cellarerref06_Lines (s_284 : List UInt8) : Option (Bool × List (List UInt8)) :=
  (cellarerref06_Split (s_284) ((10 : Int))).bind fun a_285 =>
    if (0 : Int) ≤ (0 : Int) ∧ (0 : Int) ≤ IntKind.wrap IntKind.i64 ((↑(List.length a_285) : Int) - (↑(0 : Nat) : Int) - (1 : Int)) ∧ (↑(0 : Nat) : Int) + IntKind.wrap IntKind.i64 ((↑(List.length a_285) : Int) - (↑(0 : Nat) : Int) - (1 : Int)) ≤ (↑(List.length a_285) : Int) then
      if (0 : Int) ≤ IntKind.wrap IntKind.i64 ((↑(List.length a_285) : Int) - (↑(0 : Nat) : Int) - (1 : Int)) ∧ IntKind.wrap IntKind.i64 ((↑(List.length a_285) : Int) - (↑(0 : Nat) : Int) - (1 : Int)) + (↑(0 : Nat) : Int) < (↑(List.length a_285) : Int) then
        if (0 : Nat) + Int.toNat (IntKind.wrap IntKind.i64 ((↑(List.length a_285) : Int) - (↑(0 : Nat) : Int) - (1 : Int))) < List.length a_285 then
          some (Decidable.decide (List.getD a_285 ((0 : Nat) + Int.toNat (IntKind.wrap IntKind.i64 ((↑(List.length a_285) : Int) - (↑(0 : Nat) : Int) - (1 : Int)))) [] = []), List.take ((0 : Nat) + Int.toNat (IntKind.wrap IntKind.i64 ((↑(List.length a_285) : Int) - (↑(0 : Nat) : Int) - (1 : Int)))) a_285)
        else none
      else none
    else none

def divs_Right_res (r : Bool) : AV := (fun (r_297 : Bool) => AV.bool r_297) r

def divs_Right_out (r : Bool) : List AO := (fun (r_297 : Bool) => []) r

noncomputable def divs_Right (x_290 : List UInt8) (x_291 : List UInt8) (x_292 : List UInt8) : Option (Bool) :=
  (path_Right (x_290)).bind fun a_293 =>
    bif a_293 then
      (path_Right (x_291)).bind fun a_294 =>
        bif a_294 then
          bif !Decidable.decide (x_290 = x_291) then
            bif !Decidable.decide (x_290 = [(47 : UInt8)]) then
              bif !Decidable.decide (x_291 = [(47 : UInt8)]) then
                bif Decidable.decide (x_292 = []) then
                  some (Bool.true)
                else
                  (path_Name (x_292)).bind fun a_295 =>
                    some (a_295)
              else
                some (Bool.false)
            else
              some (Bool.false)
          else
            some (Bool.false)
        else
          some (Bool.false)
    else
      some (Bool.false)

def cellarerref09_Right_res (r : Bool) : AV := (fun (r_306 : Bool) => AV.bool r_306) r

def cellarerref09_Right_out (r : Bool) : List AO := (fun (r_306 : Bool) => []) r

noncomputable def cellarerref09_Right (x_299 : List UInt8) (x_300 : List UInt8) (x_301 : List UInt8) : Option (Bool) :=
  (cellarerref02_Right (x_299)).bind fun a_302 =>
    bif a_302 then
      (cellarerref02_Right (x_300)).bind fun a_303 =>
        bif a_303 then
          bif !Decidable.decide (x_299 = x_300) then
            bif !Decidable.decide (x_299 = [(47 : UInt8)]) then
              bif !Decidable.decide (x_300 = [(47 : UInt8)]) then
                bif Decidable.decide (x_301 = []) then
                  some (Bool.true)
                else
                  (cellarerref02_Name (x_301)).bind fun a_304 =>
                    some (a_304)
              else
                some (Bool.false)
            else
              some (Bool.false)
          else
            some (Bool.false)
        else
          some (Bool.false)
    else
      some (Bool.false)

def divs_Find_1_res (r : Bool × List UInt8) : AV := (fun (r_323 : Bool × List UInt8) => AV.bool (Prod.fst r_323)) r

def divs_Find_1_out (r : Bool × List UInt8) : List AO := (fun (r_323 : Bool × List UInt8) => [AO.box [AV.str (Prod.snd r_323)]]) r

noncomputable def divs_Find_1 (x_317 : List UInt8) (x_318 : List UInt8) (x_319 : List UInt8) (o0_320 : List UInt8) : Option (Bool × List UInt8) :=
  some (Decidable.decide (x_317 = o0_320), o0_320)

def api_Divert__res (r : Int × List UInt8) : AV := (fun (r_333 : Int × List UInt8) => AV.int IntKind.i64 (Prod.fst r_333)) r

def api_Divert__out (r : Int × List UInt8) : List AO := (fun (r_333 : Int × List UInt8) => [AO.box [AV.str (Prod.snd r_333)]]) r

noncomputable def api_Divert__b0 (s_313 : List (List UInt8 × List UInt8 × List UInt8)) (t_314 : Int) (s_334 : Int × List UInt8) : Option ((Int × List UInt8) ⊕ (Int × List UInt8 ⊕ List UInt8)) :=
  bif Decidable.decide (Prod.fst s_334 < t_314) then
    if (0 : Int) ≤ Prod.fst s_334 ∧ Prod.fst s_334 < (↑(List.length s_313) : Int) then
      (divs_Find_1 (Prod.fst (List.getD s_313 (Int.toNat (Prod.fst s_334)) ([], [], []))) (Prod.fst (Prod.snd (List.getD s_313 (Int.toNat (Prod.fst s_334)) ([], [], [])))) (Prod.snd (Prod.snd (List.getD s_313 (Int.toNat (Prod.fst s_334)) ([], [], [])))) (Prod.snd s_334)).bind fun a_324 =>
        bif Prod.fst a_324 then
          some (Sum.inr (Sum.inl (Prod.fst s_334, Prod.snd a_324)))
        else
          some (Sum.inl (IntKind.wrap IntKind.i64 (Prod.fst s_334 + (1 : Int)), Prod.snd a_324))
    else none
  else
    some (Sum.inr (Sum.inr (Prod.snd s_334)))

noncomputable def api_Divert_ (s_311 : List (List UInt8 × List UInt8 × List UInt8)) (o0_312 : List UInt8) : Option (Int × List UInt8) :=
  (iter (api_Divert__b0 (s_311) ((↑(List.length s_311) : Int))) ((0 : Int), o0_312)).bind (Sum.elim (fun t_327 =>
    some (Prod.fst t_327, Prod.snd t_327)) (fun t_329 =>
    some ((-1 : Int), t_329)))

def divs_Find_res (r : Int) : AV := (fun (r_338 : Int) => AV.int IntKind.i64 r_338) r

def divs_Find_out (r : Int) : List AO := (fun (r_338 : Int) => []) r

noncomputable def divs_Find (l_309 : List (List UInt8 × List UInt8 × List UInt8)) (p_310 : List UInt8) : Option (Int) :=
  (api_Divert_ (l_309) (p_310)).bind fun a_336 =>
    some (Prod.fst a_336)

def cellarerref09_Find_res (r : Int) : AV := (fun (r_351 : Int) => AV.int IntKind.i64 r_351) r

def cellarerref09_Find_out (r : Int) : List AO := (fun (r_351 : Int) => []) r

noncomputable def cellarerref09_Find_b0 (l_343 : List (List UInt8 × List UInt8 × List UInt8)) (p_344 : List UInt8) (s_352 : Int) : Option ((Int) ⊕ (Int ⊕ Unit)) :=
  bif Decidable.decide (s_352 < (↑(List.length l_343) : Int)) then
    if (0 : Int) ≤ s_352 ∧ s_352 < (↑(List.length l_343) : Int) then
      bif Decidable.decide (Prod.fst (List.getD l_343 (Int.toNat s_352) ([], [], [])) = p_344) then
        some (Sum.inr (Sum.inl (s_352)))
      else
        some (Sum.inl (IntKind.wrap IntKind.i64 (s_352 + (1 : Int))))
    else none
  else
    some (Sum.inr (Sum.inr ()))

noncomputable def cellarerref09_Find (l_341 : List (List UInt8 × List UInt8 × List UInt8)) (p_342 : List UInt8) : Option (Int) :=
  (iter (cellarerref09_Find_b0 (l_341) (p_342)) ((0 : Int))).bind (Sum.elim (fun t_347 =>
    some (t_347)) (fun t_348 =>
    some ((-1 : Int))))

def divs_Check_1_res (r : Bool × List UInt8 × List UInt8 × List UInt8) : AV := (fun (r_389 : Bool × List UInt8 × List UInt8 × List UInt8) => AV.bool (Prod.fst r_389)) r

def divs_Check_1_out (r : Bool × List UInt8 × List UInt8 × List UInt8) : List AO := (fun (r_389 : Bool × List UInt8 × List UInt8 × List UInt8) => [AO.box [AV.str (Prod.fst (Prod.snd r_389)), AV.str (Prod.fst (Prod.snd (Prod.snd r_389))), AV.str (Prod.snd (Prod.snd (Prod.snd r_389)))]]) r

noncomputable def divs_Check_1 (y_379 : List UInt8) (y_380 : List UInt8) (y_381 : List UInt8) (o0_382 : List UInt8) (o0_383 : List UInt8) (o0_384 : List UInt8) : Option (Bool × List UInt8 × List UInt8 × List UInt8) :=
  some (Decidable.decide (y_380 = o0_383), o0_382, o0_383, o0_384)

def api_Divert__v1_res (r : Int × List UInt8 × List UInt8 × List UInt8) : AV := (fun (r_405 : Int × List UInt8 × List UInt8 × List UInt8) => AV.int IntKind.i64 (Prod.fst r_405)) r

def api_Divert__v1_out (r : Int × List UInt8 × List UInt8 × List UInt8) : List AO := (fun (r_405 : Int × List UInt8 × List UInt8 × List UInt8) => [AO.box [AV.str (Prod.fst (Prod.snd r_405)), AV.str (Prod.fst (Prod.snd (Prod.snd r_405))), AV.str (Prod.snd (Prod.snd (Prod.snd r_405)))]]) r

noncomputable def api_Divert__v1_b0 (s_373 : List (List UInt8 × List UInt8 × List UInt8)) (t_374 : Int) (s_406 : Int × List UInt8 × List UInt8 × List UInt8) : Option ((Int × List UInt8 × List UInt8 × List UInt8) ⊕ (Int × List UInt8 × List UInt8 × List UInt8 ⊕ List UInt8 × List UInt8 × List UInt8)) :=
  bif Decidable.decide (Prod.fst s_406 < t_374) then
    if (0 : Int) ≤ Prod.fst s_406 ∧ Prod.fst s_406 < (↑(List.length s_373) : Int) then
      (divs_Check_1 (Prod.fst (List.getD s_373 (Int.toNat (Prod.fst s_406)) ([], [], []))) (Prod.fst (Prod.snd (List.getD s_373 (Int.toNat (Prod.fst s_406)) ([], [], [])))) (Prod.snd (Prod.snd (List.getD s_373 (Int.toNat (Prod.fst s_406)) ([], [], [])))) (Prod.fst (Prod.snd s_406)) (Prod.fst (Prod.snd (Prod.snd s_406))) (Prod.snd (Prod.snd (Prod.snd s_406)))).bind fun a_390 =>
        bif Prod.fst a_390 then
          some (Sum.inr (Sum.inl (Prod.fst s_406, Prod.fst (Prod.snd a_390), Prod.fst (Prod.snd (Prod.snd a_390)), Prod.snd (Prod.snd (Prod.snd a_390)))))
        else
          some (Sum.inl (IntKind.wrap IntKind.i64 (Prod.fst s_406 + (1 : Int)), Prod.fst (Prod.snd a_390), Prod.fst (Prod.snd (Prod.snd a_390)), Prod.snd (Prod.snd (Prod.snd a_390))))
    else none
  else
    some (Sum.inr (Sum.inr (Prod.fst (Prod.snd s_406), Prod.fst (Prod.snd (Prod.snd s_406)), Prod.snd (Prod.snd (Prod.snd s_406)))))

noncomputable def api_Divert__v1 (s_369 : List (List UInt8 × List UInt8 × List UInt8)) (o0_370 : List UInt8) (o0_371 : List UInt8) (o0_372 : List UInt8) : Option (Int × List UInt8 × List UInt8 × List UInt8) :=
  (iter (api_Divert__v1_b0 (s_369) ((↑(List.length s_369) : Int))) ((0 : Int), o0_370, o0_371, o0_372)).bind (Sum.elim (fun t_395 =>
    some (Prod.fst t_395, Prod.fst (Prod.snd t_395), Prod.fst (Prod.snd (Prod.snd t_395)), Prod.snd (Prod.snd (Prod.snd t_395)))) (fun t_399 =>
    some ((-1 : Int), Prod.fst t_399, Prod.fst (Prod.snd t_399), Prod.snd (Prod.snd t_399))))

def api_Divert__29_res (r : Bool × List UInt8 × List UInt8 × List UInt8) : AV := (fun (r_413 : Bool × List UInt8 × List UInt8 × List UInt8) => AV.bool (Prod.fst r_413)) r

def api_Divert__29_out (r : Bool × List UInt8 × List UInt8 × List UInt8) : List AO := (fun (r_413 : Bool × List UInt8 × List UInt8 × List UInt8) => [AO.box [AV.str (Prod.fst (Prod.snd r_413)), AV.str (Prod.fst (Prod.snd (Prod.snd r_413))), AV.str (Prod.snd (Prod.snd (Prod.snd r_413)))]]) r

noncomputable def api_Divert__29 (s_365 : List (List UInt8 × List UInt8 × List UInt8)) (o0_366 : List UInt8) (o0_367 : List UInt8) (o0_368 : List UInt8) : Option (Bool × List UInt8 × List UInt8 × List UInt8) :=
  (api_Divert__v1 (s_365) (o0_366) (o0_367) (o0_368)).bind fun a_408 =>
    some (Decidable.decide ((0 : Int) ≤ Prod.fst a_408), Prod.fst (Prod.snd a_408), Prod.fst (Prod.snd (Prod.snd a_408)), Prod.snd (Prod.snd (Prod.snd a_408)))

def divs_Check_res (r : Int) : AV := (fun (r_420 : Int) => AV.int IntKind.i64 r_420) r

def divs_Check_out (r : Int) : List AO := (fun (r_420 : Int) => []) r

noncomputable def divs_Check_b0 (l_356 : List (List UInt8 × List UInt8 × List UInt8)) (t_357 : List (List UInt8 × List UInt8 × List UInt8)) (t_358 : Int) (s_421 : Int) : Option ((Int) ⊕ (Unit ⊕ Unit)) :=
  bif Decidable.decide (s_421 < t_358) then
    if (0 : Int) ≤ s_421 ∧ s_421 < (↑(List.length t_357) : Int) then
      Option.bind (α := Unit ⊕ Unit) (
        (divs_Right (Prod.fst (List.getD t_357 (Int.toNat s_421) ([], [], []))) (Prod.fst (Prod.snd (List.getD t_357 (Int.toNat s_421) ([], [], [])))) (Prod.snd (Prod.snd (List.getD t_357 (Int.toNat s_421) ([], [], []))))).bind fun a_360 =>
          bif !a_360 then
            some (Sum.inl ())
          else
            bif Decidable.decide ((0 : Int) < s_421) then
              if (0 : Int) ≤ IntKind.wrap IntKind.i64 (s_421 - (1 : Int)) ∧ IntKind.wrap IntKind.i64 (s_421 - (1 : Int)) < (↑(List.length l_356) : Int) then
                bif !Go.Op.bytesLess (Prod.fst (List.getD l_356 (Int.toNat (IntKind.wrap IntKind.i64 (s_421 - (1 : Int)))) ([], [], []))) (Prod.fst (List.getD t_357 (Int.toNat s_421) ([], [], []))) then
                  some (Sum.inl ())
                else
                  (divs_Find (l_356) (Prod.fst (Prod.snd (List.getD t_357 (Int.toNat s_421) ([], [], []))))).bind fun a_361 =>
                    bif Decidable.decide ((0 : Int) ≤ a_361) then
                      some (Sum.inl ())
                    else
                      some (Sum.inr ())
              else none
            else
              (divs_Find (l_356) (Prod.fst (Prod.snd (List.getD t_357 (Int.toNat s_421) ([], [], []))))).bind fun a_362 =>
                bif Decidable.decide ((0 : Int) ≤ a_362) then
                  some (Sum.inl ())
                else
                  some (Sum.inr ())) (Sum.elim (fun t_363 =>
        some (Sum.inr (Sum.inl ()))) (fun t_364 =>
        if (0 : Int) ≤ (0 : Int) ∧ (0 : Int) ≤ s_421 ∧ s_421 ≤ (↑(List.length l_356) : Int) then
          (api_Divert__29 (List.drop (Int.toNat (0 : Int)) (List.take (Int.toNat s_421) l_356)) (Prod.fst (List.getD t_357 (Int.toNat s_421) ([], [], []))) (Prod.fst (Prod.snd (List.getD t_357 (Int.toNat s_421) ([], [], [])))) (Prod.snd (Prod.snd (List.getD t_357 (Int.toNat s_421) ([], [], []))))).bind fun a_414 =>
            bif Prod.fst a_414 then
              some (Sum.inr (Sum.inl ()))
            else
              some (Sum.inl (IntKind.wrap IntKind.i64 (s_421 + (1 : Int))))
        else none))
    else none
  else
    some (Sum.inr (Sum.inr ()))

noncomputable def divs_Check (l_355 : List (List UInt8 × List UInt8 × List UInt8)) : Option (Int) :=
  bif Decidable.decide ((64 : Int) < (↑(List.length l_355) : Int)) then
    some ((22 : Int))
  else
    (iter (divs_Check_b0 (l_355) (l_355) ((↑(List.length l_355) : Int))) ((0 : Int))).bind (Sum.elim (fun t_416 =>
      some ((1 : Int))) (fun t_417 =>
      some ((0 : Int))))

def cellarerref09_Check_res (r : Int) : AV := (fun (r_441 : Int) => AV.int IntKind.i64 r_441) r

def cellarerref09_Check_out (r : Int) : List AO := (fun (r_441 : Int) => []) r

noncomputable def cellarerref09_Check_b0 (l_430 : List (List UInt8 × List UInt8 × List UInt8)) (i_431 : Int) (s_443 : Int) : Option ((Int) ⊕ (Unit ⊕ Unit)) :=
  bif Decidable.decide (s_443 < (↑(List.length l_430) : Int)) then
    if (0 : Int) ≤ s_443 ∧ s_443 < (↑(List.length l_430) : Int) then
      if (0 : Int) ≤ i_431 ∧ i_431 < (↑(List.length l_430) : Int) then
        bif Decidable.decide (Prod.fst (List.getD l_430 (Int.toNat s_443) ([], [], [])) = Prod.fst (Prod.snd (List.getD l_430 (Int.toNat i_431) ([], [], [])))) then
          some (Sum.inr (Sum.inl ()))
        else
          bif !Decidable.decide (s_443 = i_431) then
            if (0 : Int) ≤ s_443 ∧ s_443 < (↑(List.length l_430) : Int) then
              if (0 : Int) ≤ i_431 ∧ i_431 < (↑(List.length l_430) : Int) then
                bif Decidable.decide (Prod.fst (Prod.snd (List.getD l_430 (Int.toNat s_443) ([], [], []))) = Prod.fst (Prod.snd (List.getD l_430 (Int.toNat i_431) ([], [], [])))) then
                  some (Sum.inr (Sum.inl ()))
                else
                  some (Sum.inl (IntKind.wrap IntKind.i64 (s_443 + (1 : Int))))
              else none
            else none
          else
            some (Sum.inl (IntKind.wrap IntKind.i64 (s_443 + (1 : Int))))
      else none
    else none
  else
    some (Sum.inr (Sum.inr ()))

noncomputable def cellarerref09_Check_b1 (l_425 : List (List UInt8 × List UInt8 × List UInt8)) (s_442 : Int) : Option ((Int) ⊕ (Unit ⊕ Unit)) :=
  bif Decidable.decide (s_442 < (↑(List.length l_425) : Int)) then
    Option.bind (α := Unit ⊕ Unit) (
      if (0 : Int) ≤ s_442 ∧ s_442 < (↑(List.length l_425) : Int) then
        (cellarerref09_Right (Prod.fst (List.getD l_425 (Int.toNat s_442) ([], [], []))) (Prod.fst (Prod.snd (List.getD l_425 (Int.toNat s_442) ([], [], [])))) (Prod.snd (Prod.snd (List.getD l_425 (Int.toNat s_442) ([], [], []))))).bind fun a_427 =>
          bif !a_427 then
            some (Sum.inl ())
          else
            bif Decidable.decide ((0 : Int) < s_442) then
              if (0 : Int) ≤ IntKind.wrap IntKind.i64 (s_442 - (1 : Int)) ∧ IntKind.wrap IntKind.i64 (s_442 - (1 : Int)) < (↑(List.length l_425) : Int) then
                if (0 : Int) ≤ s_442 ∧ s_442 < (↑(List.length l_425) : Int) then
                  bif !Go.Op.bytesLess (Prod.fst (List.getD l_425 (Int.toNat (IntKind.wrap IntKind.i64 (s_442 - (1 : Int)))) ([], [], []))) (Prod.fst (List.getD l_425 (Int.toNat s_442) ([], [], []))) then
                    some (Sum.inl ())
                  else
                    some (Sum.inr ())
                else none
              else none
            else
              some (Sum.inr ())
      else none) (Sum.elim (fun t_428 =>
      some (Sum.inr (Sum.inl ()))) (fun t_429 =>
      (iter (cellarerref09_Check_b0 (l_425) (s_442)) ((0 : Int))).bind (Sum.elim (fun t_433 =>
        some (Sum.inr (Sum.inl ()))) (fun t_434 =>
        some (Sum.inl (IntKind.wrap IntKind.i64 (s_442 + (1 : Int))))))))
  else
    some (Sum.inr (Sum.inr ()))

noncomputable def cellarerref09_Check (l_424 : List (List UInt8 × List UInt8 × List UInt8)) : Option (Int) :=
  bif Decidable.decide ((64 : Int) < (↑(List.length l_424) : Int)) then
    some ((22 : Int))
  else
    (iter (cellarerref09_Check_b1 (l_424)) ((0 : Int))).bind (Sum.elim (fun t_437 =>
      some ((1 : Int))) (fun t_438 =>
      some ((0 : Int))))

def cellarerref09_Same_res (r : Bool) : AV := (fun (r_457 : Bool) => AV.bool r_457) r

def cellarerref09_Same_out (r : Bool) : List AO := (fun (r_457 : Bool) => []) r

noncomputable def cellarerref09_Same_b0 (a_450 : List (List UInt8 × List UInt8 × List UInt8)) (b_451 : List (List UInt8 × List UInt8 × List UInt8)) (s_458 : Int) : Option ((Int) ⊕ (Unit ⊕ Unit)) :=
  bif Decidable.decide (s_458 < (↑(List.length a_450) : Int)) then
    if (0 : Int) ≤ s_458 ∧ s_458 < (↑(List.length a_450) : Int) then
      if (0 : Int) ≤ s_458 ∧ s_458 < (↑(List.length b_451) : Int) then
        bif !(Decidable.decide (Prod.fst (List.getD a_450 (Int.toNat s_458) ([], [], [])) = Prod.fst (List.getD b_451 (Int.toNat s_458) ([], [], []))) && (Decidable.decide (Prod.fst (Prod.snd (List.getD a_450 (Int.toNat s_458) ([], [], []))) = Prod.fst (Prod.snd (List.getD b_451 (Int.toNat s_458) ([], [], [])))) && Decidable.decide (Prod.snd (Prod.snd (List.getD a_450 (Int.toNat s_458) ([], [], []))) = Prod.snd (Prod.snd (List.getD b_451 (Int.toNat s_458) ([], [], [])))))) then
          some (Sum.inr (Sum.inl ()))
        else
          some (Sum.inl (IntKind.wrap IntKind.i64 (s_458 + (1 : Int))))
      else none
    else none
  else
    some (Sum.inr (Sum.inr ()))

noncomputable def cellarerref09_Same (a_448 : List (List UInt8 × List UInt8 × List UInt8)) (b_449 : List (List UInt8 × List UInt8 × List UInt8)) : Option (Bool) :=
  bif !Decidable.decide ((↑(List.length a_448) : Int) = (↑(List.length b_449) : Int)) then
    some (Bool.false)
  else
    (iter (cellarerref09_Same_b0 (a_448) (b_449)) ((0 : Int))).bind (Sum.elim (fun t_453 =>
      some (Bool.false)) (fun t_454 =>
      some (Bool.true)))

def divs_True_res (r : List UInt8) : AV := (fun (r_468 : List UInt8) => AV.str r_468) r

def divs_True_out (r : List UInt8) : List AO := (fun (r_468 : List UInt8) => []) r

noncomputable def divs_True (l_463 : List (List UInt8 × List UInt8 × List UInt8)) (p_464 : List UInt8) (by_465 : List UInt8) : Option (List UInt8) :=
  (divs_Find (l_463) (p_464)).bind fun a_466 =>
    bif Decidable.decide (a_466 < (0 : Int)) then
      some (p_464)
    else
      if (0 : Int) ≤ a_466 ∧ a_466 < (↑(List.length l_463) : Int) then
        bif !Decidable.decide (Prod.snd (Prod.snd (List.getD l_463 (Int.toNat a_466) ([], [], []))) = []) then
          if (0 : Int) ≤ a_466 ∧ a_466 < (↑(List.length l_463) : Int) then
            bif Decidable.decide (Prod.snd (Prod.snd (List.getD l_463 (Int.toNat a_466) ([], [], []))) = by_465) then
              some (p_464)
            else
              if (0 : Int) ≤ a_466 ∧ a_466 < (↑(List.length l_463) : Int) then
                some (Prod.fst (Prod.snd (List.getD l_463 (Int.toNat a_466) ([], [], []))))
              else none
          else none
        else
          if (0 : Int) ≤ a_466 ∧ a_466 < (↑(List.length l_463) : Int) then
            some (Prod.fst (Prod.snd (List.getD l_463 (Int.toNat a_466) ([], [], []))))
          else none
      else none

def cellarerref09_True_res (r : List UInt8) : AV := (fun (r_477 : List UInt8) => AV.str r_477) r

def cellarerref09_True_out (r : List UInt8) : List AO := (fun (r_477 : List UInt8) => []) r

noncomputable def cellarerref09_True (l_472 : List (List UInt8 × List UInt8 × List UInt8)) (p_473 : List UInt8) (by_474 : List UInt8) : Option (List UInt8) :=
  (cellarerref09_Find (l_472) (p_473)).bind fun a_475 =>
    bif Decidable.decide (a_475 < (0 : Int)) then
      some (p_473)
    else
      bif !Decidable.decide (by_474 = []) then
        if (0 : Int) ≤ a_475 ∧ a_475 < (↑(List.length l_472) : Int) then
          bif Decidable.decide (Prod.snd (Prod.snd (List.getD l_472 (Int.toNat a_475) ([], [], []))) = by_474) then
            some (p_473)
          else
            if (0 : Int) ≤ a_475 ∧ a_475 < (↑(List.length l_472) : Int) then
              some (Prod.fst (Prod.snd (List.getD l_472 (Int.toNat a_475) ([], [], []))))
            else none
        else none
      else
        if (0 : Int) ≤ a_475 ∧ a_475 < (↑(List.length l_472) : Int) then
          some (Prod.fst (Prod.snd (List.getD l_472 (Int.toNat a_475) ([], [], []))))
        else none

def divs_From_res (r : List UInt8) : AV := (fun (r_491 : List UInt8) => AV.str r_491) r

def divs_From_out (r : List UInt8) : List AO := (fun (r_491 : List UInt8) => []) r

noncomputable def divs_From_b0 (p_482 : List UInt8) (t_483 : List (List UInt8 × List UInt8 × List UInt8)) (t_484 : Int) (s_492 : Int) : Option ((Int) ⊕ (List UInt8 ⊕ Unit)) :=
  bif Decidable.decide (s_492 < t_484) then
    if (0 : Int) ≤ s_492 ∧ s_492 < (↑(List.length t_483) : Int) then
      bif Decidable.decide (Prod.fst (Prod.snd (List.getD t_483 (Int.toNat s_492) ([], [], []))) = p_482) then
        some (Sum.inr (Sum.inl (Prod.fst (List.getD t_483 (Int.toNat s_492) ([], [], [])))))
      else
        some (Sum.inl (IntKind.wrap IntKind.i64 (s_492 + (1 : Int))))
    else none
  else
    some (Sum.inr (Sum.inr ()))

noncomputable def divs_From (l_480 : List (List UInt8 × List UInt8 × List UInt8)) (p_481 : List UInt8) : Option (List UInt8) :=
  (iter (divs_From_b0 (p_481) (l_480) ((↑(List.length l_480) : Int))) ((0 : Int))).bind (Sum.elim (fun t_487 =>
    some (t_487)) (fun t_488 =>
    some (p_481)))

def cellarerref09_From_res (r : List UInt8) : AV := (fun (r_506 : List UInt8) => AV.str r_506) r

def cellarerref09_From_out (r : List UInt8) : List AO := (fun (r_506 : List UInt8) => []) r

noncomputable def cellarerref09_From_b0 (l_498 : List (List UInt8 × List UInt8 × List UInt8)) (p_499 : List UInt8) (s_507 : Int) : Option ((Int) ⊕ (List UInt8 ⊕ Unit)) :=
  bif Decidable.decide (s_507 < (↑(List.length l_498) : Int)) then
    if (0 : Int) ≤ s_507 ∧ s_507 < (↑(List.length l_498) : Int) then
      bif Decidable.decide (Prod.fst (Prod.snd (List.getD l_498 (Int.toNat s_507) ([], [], []))) = p_499) then
        if (0 : Int) ≤ s_507 ∧ s_507 < (↑(List.length l_498) : Int) then
          some (Sum.inr (Sum.inl (Prod.fst (List.getD l_498 (Int.toNat s_507) ([], [], [])))))
        else none
      else
        some (Sum.inl (IntKind.wrap IntKind.i64 (s_507 + (1 : Int))))
    else none
  else
    some (Sum.inr (Sum.inr ()))

noncomputable def cellarerref09_From (l_496 : List (List UInt8 × List UInt8 × List UInt8)) (p_497 : List UInt8) : Option (List UInt8) :=
  (iter (cellarerref09_From_b0 (l_496) (p_497)) ((0 : Int))).bind (Sum.elim (fun t_502 =>
    some (t_502)) (fun t_503 =>
    some (p_497)))

def cellarerlaw09_Few_res (r : Bool) : AV := (fun (r_517 : Bool) => AV.bool r_517) r

def cellarerlaw09_Few_out (r : Bool) : List AO := (fun (r_517 : Bool) => []) r

noncomputable def cellarerlaw09_Few_b0 (l_511 : List (List UInt8 × List UInt8 × List UInt8)) (s_518 : Int) : Option ((Int) ⊕ (Unit ⊕ Unit)) :=
  bif Decidable.decide (s_518 < (↑(List.length l_511) : Int)) then
    if (0 : Int) ≤ s_518 ∧ s_518 < (↑(List.length l_511) : Int) then
      bif Decidable.decide ((300 : Int) < (↑(List.length (Prod.fst (List.getD l_511 (Int.toNat s_518) ([], [], [])))) : Int)) then
        some (Sum.inr (Sum.inl ()))
      else
        if (0 : Int) ≤ s_518 ∧ s_518 < (↑(List.length l_511) : Int) then
          bif Decidable.decide ((300 : Int) < (↑(List.length (Prod.fst (Prod.snd (List.getD l_511 (Int.toNat s_518) ([], [], []))))) : Int)) then
            some (Sum.inr (Sum.inl ()))
          else
            if (0 : Int) ≤ s_518 ∧ s_518 < (↑(List.length l_511) : Int) then
              bif Decidable.decide ((300 : Int) < (↑(List.length (Prod.snd (Prod.snd (List.getD l_511 (Int.toNat s_518) ([], [], []))))) : Int)) then
                some (Sum.inr (Sum.inl ()))
              else
                some (Sum.inl (IntKind.wrap IntKind.i64 (s_518 + (1 : Int))))
            else none
        else none
    else none
  else
    some (Sum.inr (Sum.inr ()))

noncomputable def cellarerlaw09_Few (l_510 : List (List UInt8 × List UInt8 × List UInt8)) : Option (Bool) :=
  bif Decidable.decide ((70 : Int) < (↑(List.length l_510) : Int)) then
    some (Bool.false)
  else
    (iter (cellarerlaw09_Few_b0 (l_510)) ((0 : Int))).bind (Sum.elim (fun t_513 =>
      some (Bool.false)) (fun t_514 =>
      some (Bool.true)))

def divs_Print_res (r : List UInt8 × Int) : AV := (fun (r_535 : List UInt8 × Int) => AV.tup [AV.str (Prod.fst r_535), AV.int IntKind.i64 (Prod.snd r_535)]) r

def divs_Print_out (r : List UInt8 × Int) : List AO := (fun (r_535 : List UInt8 × Int) => []) r

noncomputable def divs_Print_b0 (t_524 : List (List UInt8 × List UInt8 × List UInt8)) (t_525 : Int) (s_536 : List UInt8 × Int) : Option ((List UInt8 × Int) ⊕ (List UInt8)) :=
  bif Decidable.decide (Prod.snd s_536 < t_525) then
    if (0 : Int) ≤ Prod.snd s_536 ∧ Prod.snd s_536 < (↑(List.length t_524) : Int) then
      Option.bind (α := List UInt8) (
        bif Decidable.decide (Prod.snd (Prod.snd (List.getD t_524 (Int.toNat (Prod.snd s_536)) ([], [], []))) = []) then
          some ([(58 : UInt8)])
        else
          some (Prod.snd (Prod.snd (List.getD t_524 (Int.toNat (Prod.snd s_536)) ([], [], []))))) (fun t_528 =>
        if List.length (Prod.fst (List.getD t_524 (Int.toNat (Prod.snd s_536)) ([], [], []))) + List.length ((fun (x : List UInt8) => x) [(10 : UInt8)]) ≤ (140737488355328 : Nat) then
          if List.length (Prod.fst (List.getD t_524 (Int.toNat (Prod.snd s_536)) ([], [], [])) ++ [(10 : UInt8)]) + List.length (Prod.fst (Prod.snd (List.getD t_524 (Int.toNat (Prod.snd s_536)) ([], [], [])))) ≤ (140737488355328 : Nat) then
            if List.length (Prod.fst (List.getD t_524 (Int.toNat (Prod.snd s_536)) ([], [], [])) ++ [(10 : UInt8)] ++ Prod.fst (Prod.snd (List.getD t_524 (Int.toNat (Prod.snd s_536)) ([], [], [])))) + List.length ((fun (x : List UInt8) => x) [(10 : UInt8)]) ≤ (140737488355328 : Nat) then
              if List.length (Prod.fst (List.getD t_524 (Int.toNat (Prod.snd s_536)) ([], [], [])) ++ [(10 : UInt8)] ++ Prod.fst (Prod.snd (List.getD t_524 (Int.toNat (Prod.snd s_536)) ([], [], []))) ++ [(10 : UInt8)]) + List.length t_528 ≤ (140737488355328 : Nat) then
                if List.length (Prod.fst (List.getD t_524 (Int.toNat (Prod.snd s_536)) ([], [], [])) ++ [(10 : UInt8)] ++ Prod.fst (Prod.snd (List.getD t_524 (Int.toNat (Prod.snd s_536)) ([], [], []))) ++ [(10 : UInt8)] ++ t_528) + List.length ((fun (x : List UInt8) => x) [(10 : UInt8)]) ≤ (140737488355328 : Nat) then
                  if List.length (Prod.fst s_536) + List.length (Prod.fst (List.getD t_524 (Int.toNat (Prod.snd s_536)) ([], [], [])) ++ [(10 : UInt8)] ++ Prod.fst (Prod.snd (List.getD t_524 (Int.toNat (Prod.snd s_536)) ([], [], []))) ++ [(10 : UInt8)] ++ t_528 ++ [(10 : UInt8)]) ≤ (140737488355328 : Nat) then
                    some (Sum.inl (Prod.fst s_536 ++ (Prod.fst (List.getD t_524 (Int.toNat (Prod.snd s_536)) ([], [], [])) ++ [(10 : UInt8)] ++ Prod.fst (Prod.snd (List.getD t_524 (Int.toNat (Prod.snd s_536)) ([], [], []))) ++ [(10 : UInt8)] ++ t_528 ++ [(10 : UInt8)]), IntKind.wrap IntKind.i64 (Prod.snd s_536 + (1 : Int))))
                  else none
                else none
              else none
            else none
          else none
        else none)
    else none
  else
    some (Sum.inr (Prod.fst s_536))

noncomputable def divs_Print (l_521 : List (List UInt8 × List UInt8 × List UInt8)) : Option (List UInt8 × Int) :=
  (divs_Check (l_521)).bind fun a_522 =>
    bif !Decidable.decide (a_522 = (0 : Int)) then
      some ([], a_522)
    else
      (iter (divs_Print_b0 (l_521) ((↑(List.length l_521) : Int))) ([], (0 : Int))).bind (fun t_531 =>
        some (t_531, (0 : Int)))

def cellarerref09_Print_res (r : List UInt8 × Int) : AV := (fun (r_552 : List UInt8 × Int) => AV.tup [AV.str (Prod.fst r_552), AV.int IntKind.i64 (Prod.snd r_552)]) r

def cellarerref09_Print_out (r : List UInt8 × Int) : List AO := (fun (r_552 : List UInt8 × Int) => []) r

noncomputable def cellarerref09_Print_b0 (l_541 : List (List UInt8 × List UInt8 × List UInt8)) (s_553 : List UInt8 × Int) : Option ((List UInt8 × Int) ⊕ (List UInt8)) :=
  bif Decidable.decide (Prod.snd s_553 < (↑(List.length l_541) : Int)) then
    Option.bind (α := List UInt8) (
      if (0 : Int) ≤ Prod.snd s_553 ∧ Prod.snd s_553 < (↑(List.length l_541) : Int) then
        bif !Decidable.decide (Prod.snd (Prod.snd (List.getD l_541 (Int.toNat (Prod.snd s_553)) ([], [], []))) = []) then
          if (0 : Int) ≤ Prod.snd s_553 ∧ Prod.snd s_553 < (↑(List.length l_541) : Int) then
            some (Prod.snd (Prod.snd (List.getD l_541 (Int.toNat (Prod.snd s_553)) ([], [], []))))
          else none
        else
          some ([(58 : UInt8)])
      else none) (fun t_545 =>
      if (0 : Int) ≤ Prod.snd s_553 ∧ Prod.snd s_553 < (↑(List.length l_541) : Int) then
        if List.length (Prod.fst s_553) + List.length (Prod.fst (List.getD l_541 (Int.toNat (Prod.snd s_553)) ([], [], []))) ≤ (140737488355328 : Nat) then
          if List.length (Prod.fst s_553 ++ Prod.fst (List.getD l_541 (Int.toNat (Prod.snd s_553)) ([], [], []))) + List.length ((fun (x : List UInt8) => x) [(10 : UInt8)]) ≤ (140737488355328 : Nat) then
            if (0 : Int) ≤ Prod.snd s_553 ∧ Prod.snd s_553 < (↑(List.length l_541) : Int) then
              if List.length (Prod.fst s_553 ++ Prod.fst (List.getD l_541 (Int.toNat (Prod.snd s_553)) ([], [], [])) ++ [(10 : UInt8)]) + List.length (Prod.fst (Prod.snd (List.getD l_541 (Int.toNat (Prod.snd s_553)) ([], [], [])))) ≤ (140737488355328 : Nat) then
                if List.length (Prod.fst s_553 ++ Prod.fst (List.getD l_541 (Int.toNat (Prod.snd s_553)) ([], [], [])) ++ [(10 : UInt8)] ++ Prod.fst (Prod.snd (List.getD l_541 (Int.toNat (Prod.snd s_553)) ([], [], [])))) + List.length ((fun (x : List UInt8) => x) [(10 : UInt8)]) ≤ (140737488355328 : Nat) then
                  if List.length (Prod.fst s_553 ++ Prod.fst (List.getD l_541 (Int.toNat (Prod.snd s_553)) ([], [], [])) ++ [(10 : UInt8)] ++ Prod.fst (Prod.snd (List.getD l_541 (Int.toNat (Prod.snd s_553)) ([], [], []))) ++ [(10 : UInt8)]) + List.length t_545 ≤ (140737488355328 : Nat) then
                    if List.length (Prod.fst s_553 ++ Prod.fst (List.getD l_541 (Int.toNat (Prod.snd s_553)) ([], [], [])) ++ [(10 : UInt8)] ++ Prod.fst (Prod.snd (List.getD l_541 (Int.toNat (Prod.snd s_553)) ([], [], []))) ++ [(10 : UInt8)] ++ t_545) + List.length ((fun (x : List UInt8) => x) [(10 : UInt8)]) ≤ (140737488355328 : Nat) then
                      some (Sum.inl (Prod.fst s_553 ++ Prod.fst (List.getD l_541 (Int.toNat (Prod.snd s_553)) ([], [], [])) ++ [(10 : UInt8)] ++ Prod.fst (Prod.snd (List.getD l_541 (Int.toNat (Prod.snd s_553)) ([], [], []))) ++ [(10 : UInt8)] ++ t_545 ++ [(10 : UInt8)], IntKind.wrap IntKind.i64 (Prod.snd s_553 + (1 : Int))))
                    else none
                  else none
                else none
              else none
            else none
          else none
        else none
      else none)
  else
    some (Sum.inr (Prod.fst s_553))

noncomputable def cellarerref09_Print (l_539 : List (List UInt8 × List UInt8 × List UInt8)) : Option (List UInt8 × Int) :=
  (cellarerref09_Check (l_539)).bind fun a_540 =>
    bif !Decidable.decide (a_540 = (0 : Int)) then
      some ([], a_540)
    else
      (iter (cellarerref09_Print_b0 (l_539)) ([], (0 : Int))).bind (fun t_548 =>
        some (t_548, (0 : Int)))

def divs_Parse_res (r : Int × List (List UInt8 × List UInt8 × List UInt8)) : AV := (fun (r_583 : Int × List (List UInt8 × List UInt8 × List UInt8)) => AV.tup [AV.view (0 : Nat) (0 : Nat) Option.none, AV.int IntKind.i64 (Prod.fst r_583)]) r

def divs_Parse_out (r : Int × List (List UInt8 × List UInt8 × List UInt8)) : List AO := (fun (r_583 : Int × List (List UInt8 × List UInt8 × List UInt8)) => [AO.row (Ty.prod Ty.str (Ty.prod Ty.str Ty.str)) (Prod.snd r_583)]) r

noncomputable def divs_Parse_b0 (t_567 : Int) (o0_569 : List (List UInt8)) (s_584 : Int × List (List UInt8 × List UInt8 × List UInt8)) : Option ((Int × List (List UInt8 × List UInt8 × List UInt8)) ⊕ (Unit ⊕ List (List UInt8 × List UInt8 × List UInt8))) :=
  bif Decidable.decide (Prod.fst s_584 < t_567) then
    if (0 : Int) ≤ IntKind.wrap IntKind.i64 ((3 : Int) * Prod.fst s_584) ∧ IntKind.wrap IntKind.i64 ((3 : Int) * Prod.fst s_584) + (↑(0 : Nat) : Int) < (↑(List.length o0_569) : Int) then
      if (0 : Nat) + Int.toNat (IntKind.wrap IntKind.i64 ((3 : Int) * Prod.fst s_584)) < List.length o0_569 then
        if (0 : Int) ≤ IntKind.wrap IntKind.i64 (IntKind.wrap IntKind.i64 ((3 : Int) * Prod.fst s_584) + (1 : Int)) ∧ IntKind.wrap IntKind.i64 (IntKind.wrap IntKind.i64 ((3 : Int) * Prod.fst s_584) + (1 : Int)) + (↑(0 : Nat) : Int) < (↑(List.length o0_569) : Int) then
          if (0 : Nat) + Int.toNat (IntKind.wrap IntKind.i64 (IntKind.wrap IntKind.i64 ((3 : Int) * Prod.fst s_584) + (1 : Int))) < List.length o0_569 then
            if (0 : Int) ≤ IntKind.wrap IntKind.i64 (IntKind.wrap IntKind.i64 ((3 : Int) * Prod.fst s_584) + (2 : Int)) ∧ IntKind.wrap IntKind.i64 (IntKind.wrap IntKind.i64 ((3 : Int) * Prod.fst s_584) + (2 : Int)) + (↑(0 : Nat) : Int) < (↑(List.length o0_569) : Int) then
              if (0 : Nat) + Int.toNat (IntKind.wrap IntKind.i64 (IntKind.wrap IntKind.i64 ((3 : Int) * Prod.fst s_584) + (2 : Int))) < List.length o0_569 then
                Option.bind (α := Unit ⊕ List UInt8) (
                  bif Decidable.decide (List.getD o0_569 ((0 : Nat) + Int.toNat (IntKind.wrap IntKind.i64 (IntKind.wrap IntKind.i64 ((3 : Int) * Prod.fst s_584) + (2 : Int)))) [] = []) then
                    some (Sum.inl ())
                  else
                    bif Decidable.decide (List.getD o0_569 ((0 : Nat) + Int.toNat (IntKind.wrap IntKind.i64 (IntKind.wrap IntKind.i64 ((3 : Int) * Prod.fst s_584) + (2 : Int)))) [] = [(58 : UInt8)]) then
                      some (Sum.inr ([]))
                    else
                      some (Sum.inr (List.getD o0_569 ((0 : Nat) + Int.toNat (IntKind.wrap IntKind.i64 (IntKind.wrap IntKind.i64 ((3 : Int) * Prod.fst s_584) + (2 : Int)))) []))) (Sum.elim (fun t_571 =>
                  some (Sum.inr (Sum.inl ()))) (fun t_573 =>
                  if (List.length (Prod.snd s_584) + List.length ((fun (x : List (Ty.T (Ty.prod Ty.str (Ty.prod Ty.str Ty.str)))) => x) [(List.getD o0_569 ((0 : Nat) + Int.toNat (IntKind.wrap IntKind.i64 ((3 : Int) * Prod.fst s_584))) [], List.getD o0_569 ((0 : Nat) + Int.toNat (IntKind.wrap IntKind.i64 (IntKind.wrap IntKind.i64 ((3 : Int) * Prod.fst s_584) + (1 : Int)))) [], t_573)])) * (48 : Nat) ≤ (17592186044416 : Nat) then
                    some (Sum.inl (IntKind.wrap IntKind.i64 (Prod.fst s_584 + (1 : Int)), Prod.snd s_584 ++ [(List.getD o0_569 ((0 : Nat) + Int.toNat (IntKind.wrap IntKind.i64 ((3 : Int) * Prod.fst s_584))) [], List.getD o0_569 ((0 : Nat) + Int.toNat (IntKind.wrap IntKind.i64 (IntKind.wrap IntKind.i64 ((3 : Int) * Prod.fst s_584) + (1 : Int)))) [], t_573)]))
                  else none))
              else none
            else none
          else none
        else none
      else none
    else none
  else
    some (Sum.inr (Sum.inr (Prod.snd s_584)))

noncomputable def divs_Parse (s_556 : List UInt8) : Option (Int × List (List UInt8 × List UInt8 × List UInt8)) :=
  (stanza_Lines (s_556)).bind fun a_557 =>
    Option.bind (α := Unit ⊕ Unit) (
      bif !Decidable.decide (Prod.fst a_557 = (0 : Int)) then
        some (Sum.inl ())
      else
        bif !Decidable.decide (Int.tmod ((↑(List.length (Prod.snd a_557)) : Int) - (↑(0 : Nat) : Int)) (3 : Int) = (0 : Int)) then
          some (Sum.inl ())
        else
          some (Sum.inr ())) (Sum.elim (fun t_558 =>
      some ((2 : Int), [])) (fun t_559 =>
      (iter (divs_Parse_b0 (IntKind.wrap IntKind.i64 (Int.tdiv ((↑(List.length (Prod.snd a_557)) : Int) - (↑(0 : Nat) : Int)) (3 : Int))) (Prod.snd a_557)) ((0 : Int), [])).bind (Sum.elim (fun t_575 =>
        some ((2 : Int), [])) (fun t_577 =>
        (divs_Check (List.drop (0 : Nat) t_577)).bind fun a_578 =>
          bif !Decidable.decide (a_578 = (0 : Int)) then
            some ((2 : Int), [])
          else
            some ((0 : Int), t_577)))))

def cellarerref09_Parse_res (r : Bool × List (List UInt8 × List UInt8 × List UInt8)) : AV := (fun (r_610 : Bool × List (List UInt8 × List UInt8 × List UInt8)) => AV.tup [AV.view (0 : Nat) (0 : Nat) Option.none, AV.bool (Prod.fst r_610)]) r

def cellarerref09_Parse_out (r : Bool × List (List UInt8 × List UInt8 × List UInt8)) : List AO := (fun (r_610 : Bool × List (List UInt8 × List UInt8 × List UInt8)) => [AO.row (Ty.prod Ty.str (Ty.prod Ty.str Ty.str)) (Prod.snd r_610)]) r

noncomputable def cellarerref09_Parse_b0 (o1_600 : List (List UInt8)) (s_611 : Int × List (List UInt8 × List UInt8 × List UInt8)) : Option ((Int × List (List UInt8 × List UInt8 × List UInt8)) ⊕ (List (List UInt8 × List UInt8 × List UInt8))) :=
  bif Decidable.decide (IntKind.wrap IntKind.i64 (Prod.fst s_611 + (2 : Int)) < (↑(List.length o1_600) : Int) - (↑(0 : Nat) : Int)) then
    if (0 : Int) ≤ Prod.fst s_611 ∧ Prod.fst s_611 + (↑(0 : Nat) : Int) < (↑(List.length o1_600) : Int) then
      if (0 : Nat) + Int.toNat (Prod.fst s_611) < List.length o1_600 then
        if (0 : Int) ≤ IntKind.wrap IntKind.i64 (Prod.fst s_611 + (1 : Int)) ∧ IntKind.wrap IntKind.i64 (Prod.fst s_611 + (1 : Int)) + (↑(0 : Nat) : Int) < (↑(List.length o1_600) : Int) then
          if (0 : Nat) + Int.toNat (IntKind.wrap IntKind.i64 (Prod.fst s_611 + (1 : Int))) < List.length o1_600 then
            Option.bind (α := List UInt8) (
              if (0 : Int) ≤ IntKind.wrap IntKind.i64 (Prod.fst s_611 + (2 : Int)) ∧ IntKind.wrap IntKind.i64 (Prod.fst s_611 + (2 : Int)) + (↑(0 : Nat) : Int) < (↑(List.length o1_600) : Int) then
                if (0 : Nat) + Int.toNat (IntKind.wrap IntKind.i64 (Prod.fst s_611 + (2 : Int))) < List.length o1_600 then
                  bif !Decidable.decide (List.getD o1_600 ((0 : Nat) + Int.toNat (IntKind.wrap IntKind.i64 (Prod.fst s_611 + (2 : Int)))) [] = [(58 : UInt8)]) then
                    if (0 : Int) ≤ IntKind.wrap IntKind.i64 (Prod.fst s_611 + (2 : Int)) ∧ IntKind.wrap IntKind.i64 (Prod.fst s_611 + (2 : Int)) + (↑(0 : Nat) : Int) < (↑(List.length o1_600) : Int) then
                      if (0 : Nat) + Int.toNat (IntKind.wrap IntKind.i64 (Prod.fst s_611 + (2 : Int))) < List.length o1_600 then
                        some (List.getD o1_600 ((0 : Nat) + Int.toNat (IntKind.wrap IntKind.i64 (Prod.fst s_611 + (2 : Int)))) [])
                      else none
                    else none
                  else
                    some ([])
                else none
              else none) (fun t_602 =>
              if (List.length (Prod.snd s_611) + List.length ((fun (x : List (Ty.T (Ty.prod Ty.str (Ty.prod Ty.str Ty.str)))) => x) [(List.getD o1_600 ((0 : Nat) + Int.toNat (Prod.fst s_611)) [], List.getD o1_600 ((0 : Nat) + Int.toNat (IntKind.wrap IntKind.i64 (Prod.fst s_611 + (1 : Int)))) [], t_602)])) * (48 : Nat) ≤ (17592186044416 : Nat) then
                some (Sum.inl (IntKind.wrap IntKind.i64 (Prod.fst s_611 + (3 : Int)), Prod.snd s_611 ++ [(List.getD o1_600 ((0 : Nat) + Int.toNat (Prod.fst s_611)) [], List.getD o1_600 ((0 : Nat) + Int.toNat (IntKind.wrap IntKind.i64 (Prod.fst s_611 + (1 : Int)))) [], t_602)]))
              else none)
          else none
        else none
      else none
    else none
  else
    some (Sum.inr (Prod.snd s_611))

noncomputable def cellarerref09_Parse (s_587 : List UInt8) : Option (Bool × List (List UInt8 × List UInt8 × List UInt8)) :=
  (cellarerref06_Lines (s_587)).bind fun a_588 =>
    (iter (cellarerref09_Parse_b0 (Prod.snd a_588)) ((0 : Int), [])).bind (fun t_605 =>
      (cellarerref09_Print (List.drop (0 : Nat) t_605)).bind fun a_606 =>
        bif !Prod.fst a_588 then
          some (Bool.false, [])
        else
          bif !Decidable.decide (Prod.snd a_606 = (0 : Int)) then
            some (Bool.false, [])
          else
            bif !Decidable.decide (Prod.fst a_606 = s_587) then
              some (Bool.false, [])
            else
              some (Bool.true, t_605))

def cellarerlaw09_awake_res (r : Bool) : AV := (fun (r_620 : Bool) => AV.bool r_620) r

def cellarerlaw09_awake_out (r : Bool) : List AO := (fun (r_620 : Bool) => []) r

noncomputable def cellarerlaw09_awake  : Option (Bool) :=
  (divs_Print ([([(47 : UInt8), (97 : UInt8)], [(47 : UInt8), (98 : UInt8)], [(120 : UInt8)])])).bind fun a_613 =>
    (divs_Parse (Prod.fst a_613)).bind fun a_614 =>
      bif Decidable.decide (Prod.fst a_613 = [(47 : UInt8), (97 : UInt8), (10 : UInt8), (47 : UInt8), (98 : UInt8), (10 : UInt8), (120 : UInt8), (10 : UInt8)]) then
        bif Decidable.decide (Prod.snd a_613 = (0 : Int)) then
          bif Decidable.decide (Prod.fst a_614 = (0 : Int)) then
            (cellarerref09_Same ([([(47 : UInt8), (97 : UInt8)], [(47 : UInt8), (98 : UInt8)], [(120 : UInt8)])]) (List.drop (0 : Nat) (Prod.snd a_614))).bind fun a_615 =>
              bif a_615 then
                (divs_True ([([(47 : UInt8), (97 : UInt8)], [(47 : UInt8), (98 : UInt8)], [(120 : UInt8)])]) ([(47 : UInt8), (97 : UInt8)]) ([])).bind fun a_616 =>
                  bif Decidable.decide (a_616 = [(47 : UInt8), (98 : UInt8)]) then
                    (divs_True ([([(47 : UInt8), (97 : UInt8)], [(47 : UInt8), (98 : UInt8)], [(120 : UInt8)])]) ([(47 : UInt8), (97 : UInt8)]) ([(120 : UInt8)])).bind fun a_617 =>
                      bif Decidable.decide (a_617 = [(47 : UInt8), (97 : UInt8)]) then
                        (divs_Right ([(47 : UInt8), (97 : UInt8)]) ([(47 : UInt8), (98 : UInt8)]) ([(120 : UInt8)])).bind fun a_618 =>
                          some (a_618)
                      else
                        some (Bool.false)
                  else
                    some (Bool.false)
              else
                some (Bool.false)
          else
            some (Bool.false)
        else
          some (Bool.false)
      else
        some (Bool.false)

def cellarerlaw09_DivsPrints_res (r : Bool) : AV := (fun (r_637 : Bool) => AV.bool r_637) r

def cellarerlaw09_DivsPrints_out (r : Bool) : List AO := (fun (r_637 : Bool) => []) r

noncomputable def cellarerlaw09_DivsPrints (l_622 : List (List UInt8 × List UInt8 × List UInt8)) : Option (Bool) :=
  (cellarerlaw09_Few (l_622)).bind fun a_623 =>
    bif !a_623 then
      (cellarerlaw09_awake ).bind fun a_624 =>
        some (a_624)
    else
      (divs_Print (l_622)).bind fun a_625 =>
        (cellarerref09_Print (l_622)).bind fun a_626 =>
          Option.bind (α := Unit ⊕ Unit) (
            bif !Decidable.decide (Prod.fst a_625 = Prod.fst a_626) then
              some (Sum.inl ())
            else
              bif !Decidable.decide (Prod.snd a_625 = Prod.snd a_626) then
                some (Sum.inl ())
              else
                (divs_Check (l_622)).bind fun a_627 =>
                  (cellarerref09_Check (l_622)).bind fun a_628 =>
                    bif !Decidable.decide (a_627 = a_628) then
                      some (Sum.inl ())
                    else
                      some (Sum.inr ())) (Sum.elim (fun t_629 =>
            some (Bool.false)) (fun t_630 =>
            bif !Decidable.decide (Prod.snd a_625 = (0 : Int)) then
              (cellarerlaw09_awake ).bind fun a_631 =>
                some (a_631)
            else
              (divs_Parse (Prod.fst a_625)).bind fun a_632 =>
                bif Decidable.decide (Prod.fst a_632 = (0 : Int)) then
                  (cellarerref09_Same (List.drop (0 : Nat) (Prod.snd a_632)) (l_622)).bind fun a_633 =>
                    bif a_633 then
                      (cellarerlaw09_awake ).bind fun a_634 =>
                        some (a_634)
                    else
                      some (Bool.false)
                else
                  some (Bool.false)))

def cellarerlaw09_DivsParses_res (r : Bool) : AV := (fun (r_651 : Bool) => AV.bool r_651) r

def cellarerlaw09_DivsParses_out (r : Bool) : List AO := (fun (r_651 : Bool) => []) r

noncomputable def cellarerlaw09_DivsParses (s_639 : List UInt8) : Option (Bool) :=
  bif Decidable.decide ((3000 : Int) < (↑(List.length s_639) : Int)) then
    (cellarerlaw09_awake ).bind fun a_640 =>
      some (a_640)
  else
    (divs_Parse (s_639)).bind fun a_641 =>
      (cellarerref09_Parse (s_639)).bind fun a_642 =>
        Option.bind (α := Unit ⊕ Unit) (
          bif !Decidable.decide (Prod.fst a_642 = Decidable.decide (Prod.fst a_641 = (0 : Int))) then
            some (Sum.inl ())
          else
            bif Prod.fst a_642 then
              (cellarerref09_Same (List.drop (0 : Nat) (Prod.snd a_641)) (List.drop (0 : Nat) (Prod.snd a_642))).bind fun a_643 =>
                bif !a_643 then
                  some (Sum.inl ())
                else
                  bif !Prod.fst a_642 then
                    bif !Decidable.decide (Prod.fst a_641 = (2 : Int)) then
                      some (Sum.inl ())
                    else
                      bif !Decidable.decide ((↑(List.length (Prod.snd a_641)) : Int) - (↑(0 : Nat) : Int) = (0 : Int)) then
                        some (Sum.inl ())
                      else
                        some (Sum.inr ())
                  else
                    some (Sum.inr ())
            else
              bif !Prod.fst a_642 then
                bif !Decidable.decide (Prod.fst a_641 = (2 : Int)) then
                  some (Sum.inl ())
                else
                  bif !Decidable.decide ((↑(List.length (Prod.snd a_641)) : Int) - (↑(0 : Nat) : Int) = (0 : Int)) then
                    some (Sum.inl ())
                  else
                    some (Sum.inr ())
              else
                some (Sum.inr ())) (Sum.elim (fun t_644 =>
          some (Bool.false)) (fun t_645 =>
          bif !Prod.fst a_642 then
            (cellarerlaw09_awake ).bind fun a_646 =>
              some (a_646)
          else
            (divs_Print (List.drop (0 : Nat) (Prod.snd a_641))).bind fun a_647 =>
              bif Decidable.decide (Prod.snd a_647 = (0 : Int)) then
                bif Decidable.decide (Prod.fst a_647 = s_639) then
                  (cellarerlaw09_awake ).bind fun a_648 =>
                    some (a_648)
                else
                  some (Bool.false)
              else
                some (Bool.false)))

def cellarerlaw09_DivsTrue_res (r : Bool) : AV := (fun (r_672 : Bool) => AV.bool r_672) r

def cellarerlaw09_DivsTrue_out (r : Bool) : List AO := (fun (r_672 : Bool) => []) r

noncomputable def cellarerlaw09_DivsTrue (l_655 : List (List UInt8 × List UInt8 × List UInt8)) (p_656 : List UInt8) (by_657 : List UInt8) : Option (Bool) :=
  Option.bind (α := Bool ⊕ Unit) (
    (cellarerlaw09_Few (l_655)).bind fun a_658 =>
      bif !a_658 then
        (cellarerlaw09_awake ).bind fun a_659 =>
          some (Sum.inl (a_659))
      else
        bif Decidable.decide ((300 : Int) < (↑(List.length p_656) : Int)) then
          (cellarerlaw09_awake ).bind fun a_660 =>
            some (Sum.inl (a_660))
        else
          bif Decidable.decide ((300 : Int) < (↑(List.length by_657) : Int)) then
            (cellarerlaw09_awake ).bind fun a_661 =>
              some (Sum.inl (a_661))
          else
            some (Sum.inr ())) (Sum.elim (fun t_663 =>
    some (t_663)) (fun t_664 =>
    (divs_True (l_655) (p_656) (by_657)).bind fun a_665 =>
      (cellarerref09_True (l_655) (p_656) (by_657)).bind fun a_666 =>
        bif Decidable.decide (a_665 = a_666) then
          (divs_From (l_655) (p_656)).bind fun a_667 =>
            (cellarerref09_From (l_655) (p_656)).bind fun a_668 =>
              bif Decidable.decide (a_667 = a_668) then
                (cellarerlaw09_awake ).bind fun a_669 =>
                  some (a_669)
              else
                some (Bool.false)
        else
          some (Bool.false)))

def cellarerlaw09_DivsApart_res (r : Bool) : AV := (fun (r_700 : Bool) => AV.bool r_700) r

def cellarerlaw09_DivsApart_out (r : Bool) : List AO := (fun (r_700 : Bool) => []) r

noncomputable def cellarerlaw09_DivsApart (l_676 : List (List UInt8 × List UInt8 × List UInt8)) (p_677 : List UInt8) (q_678 : List UInt8) : Option (Bool) :=
  Option.bind (α := Bool ⊕ Unit) (
    (cellarerlaw09_Few (l_676)).bind fun a_679 =>
      bif !a_679 then
        (cellarerlaw09_awake ).bind fun a_680 =>
          some (Sum.inl (a_680))
      else
        bif Decidable.decide ((300 : Int) < (↑(List.length p_677) : Int)) then
          (cellarerlaw09_awake ).bind fun a_681 =>
            some (Sum.inl (a_681))
        else
          bif Decidable.decide ((300 : Int) < (↑(List.length q_678) : Int)) then
            (cellarerlaw09_awake ).bind fun a_682 =>
              some (Sum.inl (a_682))
          else
            (divs_Check (l_676)).bind fun a_683 =>
              bif !Decidable.decide (a_683 = (0 : Int)) then
                (cellarerlaw09_awake ).bind fun a_684 =>
                  some (Sum.inl (a_684))
              else
                (divs_From (l_676) (p_677)).bind fun a_685 =>
                  bif !Decidable.decide (a_685 = p_677) then
                    (cellarerlaw09_awake ).bind fun a_686 =>
                      some (Sum.inl (a_686))
                  else
                    (divs_From (l_676) (q_678)).bind fun a_687 =>
                      bif !Decidable.decide (a_687 = q_678) then
                        (cellarerlaw09_awake ).bind fun a_688 =>
                          some (Sum.inl (a_688))
                      else
                        bif Decidable.decide (p_677 = q_678) then
                          (cellarerlaw09_awake ).bind fun a_689 =>
                            some (Sum.inl (a_689))
                        else
                          some (Sum.inr ())) (Sum.elim (fun t_691 =>
    some (t_691)) (fun t_692 =>
    (divs_True (l_676) (p_677) ([])).bind fun a_693 =>
      (divs_True (l_676) (q_678) ([])).bind fun a_694 =>
        bif !Decidable.decide (a_693 = a_694) then
          (divs_From (l_676) (a_693)).bind fun a_695 =>
            bif Decidable.decide (a_695 = p_677) then
              (divs_From (l_676) (a_694)).bind fun a_696 =>
                bif Decidable.decide (a_696 = q_678) then
                  (cellarerlaw09_awake ).bind fun a_697 =>
                    some (a_697)
                else
                  some (Bool.false)
            else
              some (Bool.false)
        else
          some (Bool.false)))

def api_Divert__33_res (r : List (List UInt8 × List UInt8 × List UInt8)) : AV := (fun (r_709 : List (List UInt8 × List UInt8 × List UInt8)) => AV.view (0 : Nat) (0 : Nat) Option.none) r

def api_Divert__33_out (r : List (List UInt8 × List UInt8 × List UInt8)) : List AO := (fun (r_709 : List (List UInt8 × List UInt8 × List UInt8)) => [AO.row (Ty.prod Ty.str (Ty.prod Ty.str Ty.str)) r_709]) r

noncomputable def api_Divert__33 (s_707 : List (List UInt8 × List UInt8 × List UInt8)) : Option (List (List UInt8 × List UInt8 × List UInt8)) :=
  mayb (List.isEmpty s_707) (
    some ([])) (
    if ((0 : Nat) + List.length s_707) * (48 : Nat) ≤ (17592186044416 : Nat) ∧ ((0 : Nat) < List.length s_707 ∨ (0 : Nat) = (0 : Nat)) then
      some (s_707)
    else none)

def divs_Put_1_res (r : Bool × List UInt8 × List UInt8 × List UInt8) : AV := (fun (r_732 : Bool × List UInt8 × List UInt8 × List UInt8) => AV.bool (Prod.fst r_732)) r

def divs_Put_1_out (r : Bool × List UInt8 × List UInt8 × List UInt8) : List AO := (fun (r_732 : Bool × List UInt8 × List UInt8 × List UInt8) => [AO.box [AV.str (Prod.fst (Prod.snd r_732)), AV.str (Prod.fst (Prod.snd (Prod.snd r_732))), AV.str (Prod.snd (Prod.snd (Prod.snd r_732)))]]) r

noncomputable def divs_Put_1 (y_722 : List UInt8) (y_723 : List UInt8) (y_724 : List UInt8) (o0_725 : List UInt8) (o0_726 : List UInt8) (o0_727 : List UInt8) : Option (Bool × List UInt8 × List UInt8 × List UInt8) :=
  some (!(Go.Op.bytesLess y_722 o0_725 || Decidable.decide (y_722 = o0_725)), o0_725, o0_726, o0_727)

def api_Divert__v2_res (r : Int × List UInt8 × List UInt8 × List UInt8) : AV := (fun (r_748 : Int × List UInt8 × List UInt8 × List UInt8) => AV.int IntKind.i64 (Prod.fst r_748)) r

def api_Divert__v2_out (r : Int × List UInt8 × List UInt8 × List UInt8) : List AO := (fun (r_748 : Int × List UInt8 × List UInt8 × List UInt8) => [AO.box [AV.str (Prod.fst (Prod.snd r_748)), AV.str (Prod.fst (Prod.snd (Prod.snd r_748))), AV.str (Prod.snd (Prod.snd (Prod.snd r_748)))]]) r

noncomputable def api_Divert__v2_b0 (s_716 : List (List UInt8 × List UInt8 × List UInt8)) (t_717 : Int) (s_749 : Int × List UInt8 × List UInt8 × List UInt8) : Option ((Int × List UInt8 × List UInt8 × List UInt8) ⊕ (Int × List UInt8 × List UInt8 × List UInt8 ⊕ List UInt8 × List UInt8 × List UInt8)) :=
  bif Decidable.decide (Prod.fst s_749 < t_717) then
    if (0 : Int) ≤ Prod.fst s_749 ∧ Prod.fst s_749 < (↑(List.length s_716) : Int) then
      (divs_Put_1 (Prod.fst (List.getD s_716 (Int.toNat (Prod.fst s_749)) ([], [], []))) (Prod.fst (Prod.snd (List.getD s_716 (Int.toNat (Prod.fst s_749)) ([], [], [])))) (Prod.snd (Prod.snd (List.getD s_716 (Int.toNat (Prod.fst s_749)) ([], [], [])))) (Prod.fst (Prod.snd s_749)) (Prod.fst (Prod.snd (Prod.snd s_749))) (Prod.snd (Prod.snd (Prod.snd s_749)))).bind fun a_733 =>
        bif Prod.fst a_733 then
          some (Sum.inr (Sum.inl (Prod.fst s_749, Prod.fst (Prod.snd a_733), Prod.fst (Prod.snd (Prod.snd a_733)), Prod.snd (Prod.snd (Prod.snd a_733)))))
        else
          some (Sum.inl (IntKind.wrap IntKind.i64 (Prod.fst s_749 + (1 : Int)), Prod.fst (Prod.snd a_733), Prod.fst (Prod.snd (Prod.snd a_733)), Prod.snd (Prod.snd (Prod.snd a_733))))
    else none
  else
    some (Sum.inr (Sum.inr (Prod.fst (Prod.snd s_749), Prod.fst (Prod.snd (Prod.snd s_749)), Prod.snd (Prod.snd (Prod.snd s_749)))))

noncomputable def api_Divert__v2 (s_712 : List (List UInt8 × List UInt8 × List UInt8)) (o0_713 : List UInt8) (o0_714 : List UInt8) (o0_715 : List UInt8) : Option (Int × List UInt8 × List UInt8 × List UInt8) :=
  (iter (api_Divert__v2_b0 (s_712) ((↑(List.length s_712) : Int))) ((0 : Int), o0_713, o0_714, o0_715)).bind (Sum.elim (fun t_738 =>
    some (Prod.fst t_738, Prod.fst (Prod.snd t_738), Prod.fst (Prod.snd (Prod.snd t_738)), Prod.snd (Prod.snd (Prod.snd t_738)))) (fun t_742 =>
    some ((-1 : Int), Prod.fst t_742, Prod.fst (Prod.snd t_742), Prod.snd (Prod.snd t_742))))

def divs_Put_res (r : List (List UInt8 × List UInt8 × List UInt8)) : AV := (fun (r_755 : List (List UInt8 × List UInt8 × List UInt8)) => AV.view (0 : Nat) (0 : Nat) Option.none) r

def divs_Put_out (r : List (List UInt8 × List UInt8 × List UInt8)) : List AO := (fun (r_755 : List (List UInt8 × List UInt8 × List UInt8)) => [AO.row (Ty.prod Ty.str (Ty.prod Ty.str Ty.str)) r_755]) r

noncomputable def divs_Put (l_703 : List (List UInt8 × List UInt8 × List UInt8)) (x_704 : List UInt8) (x_705 : List UInt8) (x_706 : List UInt8) : Option (List (List UInt8 × List UInt8 × List UInt8)) :=
  (api_Divert__33 (l_703)).bind fun a_710 =>
    (divs_Find (l_703) (x_704)).bind fun a_711 =>
      bif Decidable.decide ((0 : Int) ≤ a_711) then
        if (0 : Int) ≤ a_711 ∧ a_711 + (↑(0 : Nat) : Int) < (↑(List.length a_710) : Int) then
          if (0 : Nat) + Int.toNat a_711 < List.length a_710 then
            some (List.set a_710 ((0 : Nat) + Int.toNat a_711) (x_704, x_705, x_706))
          else none
        else none
      else
        (api_Divert__v2 (l_703) (x_704) (x_705) (x_706)).bind fun a_751 =>
          bif Decidable.decide (Prod.fst a_751 < (0 : Int)) then
            (api_Divert__36 ((↑(List.length l_703) : Int)) ([(Prod.fst (Prod.snd a_751), Prod.fst (Prod.snd (Prod.snd a_751)), Prod.snd (Prod.snd (Prod.snd a_751)))]) (a_710)).bind fun a_752 =>
              some (a_752)
          else
            (api_Divert__36 (Prod.fst a_751) ([(Prod.fst (Prod.snd a_751), Prod.fst (Prod.snd (Prod.snd a_751)), Prod.snd (Prod.snd (Prod.snd a_751)))]) (a_710)).bind fun a_753 =>
              some (a_753)

def cellarerref09_Put_res (r : List (List UInt8 × List UInt8 × List UInt8)) : AV := (fun (r_790 : List (List UInt8 × List UInt8 × List UInt8)) => AV.view (0 : Nat) (0 : Nat) Option.none) r

def cellarerref09_Put_out (r : List (List UInt8 × List UInt8 × List UInt8)) : List AO := (fun (r_790 : List (List UInt8 × List UInt8 × List UInt8)) => [AO.row (Ty.prod Ty.str (Ty.prod Ty.str Ty.str)) r_790]) r

noncomputable def cellarerref09_Put_b0 (l_773 : List (List UInt8 × List UInt8 × List UInt8)) (old_774 : Int) (o0_777 : List UInt8) (o0_778 : List UInt8) (o0_779 : List UInt8) (s_791 : Bool × Int × List (List UInt8 × List UInt8 × List UInt8)) : Option ((Bool × Int × List (List UInt8 × List UInt8 × List UInt8)) ⊕ (Bool × List (List UInt8 × List UInt8 × List UInt8))) :=
  bif Decidable.decide (Prod.fst (Prod.snd s_791) < (↑(List.length l_773) : Int)) then
    Option.bind (α := Bool × List (List UInt8 × List UInt8 × List UInt8)) (
      bif !Prod.fst s_791 then
        if (0 : Int) ≤ Prod.fst (Prod.snd s_791) ∧ Prod.fst (Prod.snd s_791) < (↑(List.length l_773) : Int) then
          bif !(Go.Op.bytesLess (Prod.fst (List.getD l_773 (Int.toNat (Prod.fst (Prod.snd s_791))) ([], [], []))) o0_777 || Decidable.decide (Prod.fst (List.getD l_773 (Int.toNat (Prod.fst (Prod.snd s_791))) ([], [], [])) = o0_777)) then
            if (List.length (Prod.snd (Prod.snd s_791)) + List.length ((fun (x : List (Ty.T (Ty.prod Ty.str (Ty.prod Ty.str Ty.str)))) => x) [(o0_777, o0_778, o0_779)])) * (48 : Nat) ≤ (17592186044416 : Nat) then
              some (Bool.true, Prod.snd (Prod.snd s_791) ++ [(o0_777, o0_778, o0_779)])
            else none
          else
            some (Prod.fst s_791, Prod.snd (Prod.snd s_791))
        else none
      else
        some (Prod.fst s_791, Prod.snd (Prod.snd s_791))) (fun t_783 =>
      bif Decidable.decide (Prod.fst (Prod.snd s_791) = old_774) then
        if (List.length (Prod.snd t_783) + List.length ((fun (x : List (Ty.T (Ty.prod Ty.str (Ty.prod Ty.str Ty.str)))) => x) [(o0_777, o0_778, o0_779)])) * (48 : Nat) ≤ (17592186044416 : Nat) then
          some (Sum.inl (Prod.fst t_783, IntKind.wrap IntKind.i64 (Prod.fst (Prod.snd s_791) + (1 : Int)), Prod.snd t_783 ++ [(o0_777, o0_778, o0_779)]))
        else none
      else
        if (0 : Int) ≤ Prod.fst (Prod.snd s_791) ∧ Prod.fst (Prod.snd s_791) < (↑(List.length l_773) : Int) then
          if (List.length (Prod.snd t_783) + List.length ((fun (x : List (Ty.T (Ty.prod Ty.str (Ty.prod Ty.str Ty.str)))) => x) [(Prod.fst (List.getD l_773 (Int.toNat (Prod.fst (Prod.snd s_791))) ([], [], [])), Prod.fst (Prod.snd (List.getD l_773 (Int.toNat (Prod.fst (Prod.snd s_791))) ([], [], []))), Prod.snd (Prod.snd (List.getD l_773 (Int.toNat (Prod.fst (Prod.snd s_791))) ([], [], []))))])) * (48 : Nat) ≤ (17592186044416 : Nat) then
            some (Sum.inl (Prod.fst t_783, IntKind.wrap IntKind.i64 (Prod.fst (Prod.snd s_791) + (1 : Int)), Prod.snd t_783 ++ [(Prod.fst (List.getD l_773 (Int.toNat (Prod.fst (Prod.snd s_791))) ([], [], [])), Prod.fst (Prod.snd (List.getD l_773 (Int.toNat (Prod.fst (Prod.snd s_791))) ([], [], []))), Prod.snd (Prod.snd (List.getD l_773 (Int.toNat (Prod.fst (Prod.snd s_791))) ([], [], []))))]))
          else none
        else none)
  else
    some (Sum.inr (Prod.fst s_791, Prod.snd (Prod.snd s_791)))

noncomputable def cellarerref09_Put (l_758 : List (List UInt8 × List UInt8 × List UInt8)) (x_759 : List UInt8) (x_760 : List UInt8) (x_761 : List UInt8) : Option (List (List UInt8 × List UInt8 × List UInt8)) :=
  (cellarerref09_Find (l_758) (x_759)).bind fun a_762 =>
    (iter (cellarerref09_Put_b0 (l_758) (a_762) (x_759) (x_760) (x_761)) (Decidable.decide ((0 : Int) ≤ a_762), (0 : Int), [])).bind (fun t_787 =>
      bif !Prod.fst t_787 then
        if (List.length (Prod.snd t_787) + List.length ((fun (x : List (Ty.T (Ty.prod Ty.str (Ty.prod Ty.str Ty.str)))) => x) [(x_759, x_760, x_761)])) * (48 : Nat) ≤ (17592186044416 : Nat) then
          some (Prod.snd t_787 ++ [(x_759, x_760, x_761)])
        else none
      else
        some (Prod.snd t_787))

def divs_Drop_1_res (r : Bool × List UInt8) : AV := (fun (r_812 : Bool × List UInt8) => AV.bool (Prod.fst r_812)) r

def divs_Drop_1_out (r : Bool × List UInt8) : List AO := (fun (r_812 : Bool × List UInt8) => [AO.box [AV.str (Prod.snd r_812)]]) r

noncomputable def divs_Drop_1 (x_806 : List UInt8) (x_807 : List UInt8) (x_808 : List UInt8) (o0_809 : List UInt8) : Option (Bool × List UInt8) :=
  some (Decidable.decide (x_806 = o0_809), o0_809)

def api_Divert__v3_res (r : Int × List UInt8) : AV := (fun (r_822 : Int × List UInt8) => AV.int IntKind.i64 (Prod.fst r_822)) r

def api_Divert__v3_out (r : Int × List UInt8) : List AO := (fun (r_822 : Int × List UInt8) => [AO.box [AV.str (Prod.snd r_822)]]) r

noncomputable def api_Divert__v3_b0 (s_802 : List (List UInt8 × List UInt8 × List UInt8)) (t_803 : Int) (s_823 : Int × List UInt8) : Option ((Int × List UInt8) ⊕ (Int × List UInt8 ⊕ List UInt8)) :=
  bif Decidable.decide (Prod.fst s_823 < t_803) then
    if (0 : Int) ≤ Prod.fst s_823 ∧ Prod.fst s_823 < (↑(List.length s_802) : Int) then
      (divs_Drop_1 (Prod.fst (List.getD s_802 (Int.toNat (Prod.fst s_823)) ([], [], []))) (Prod.fst (Prod.snd (List.getD s_802 (Int.toNat (Prod.fst s_823)) ([], [], [])))) (Prod.snd (Prod.snd (List.getD s_802 (Int.toNat (Prod.fst s_823)) ([], [], [])))) (Prod.snd s_823)).bind fun a_813 =>
        bif Prod.fst a_813 then
          some (Sum.inr (Sum.inl (Prod.fst s_823, Prod.snd a_813)))
        else
          some (Sum.inl (IntKind.wrap IntKind.i64 (Prod.fst s_823 + (1 : Int)), Prod.snd a_813))
    else none
  else
    some (Sum.inr (Sum.inr (Prod.snd s_823)))

noncomputable def api_Divert__v3 (s_800 : List (List UInt8 × List UInt8 × List UInt8)) (o0_801 : List UInt8) : Option (Int × List UInt8) :=
  (iter (api_Divert__v3_b0 (s_800) ((↑(List.length s_800) : Int))) ((0 : Int), o0_801)).bind (Sum.elim (fun t_816 =>
    some (Prod.fst t_816, Prod.snd t_816)) (fun t_818 =>
    some ((-1 : Int), t_818)))

def api_Divert__37_res (r : List UInt8 × List (List UInt8 × List UInt8 × List UInt8)) : AV := (fun (r_838 : List UInt8 × List (List UInt8 × List UInt8 × List UInt8)) => AV.view (1 : Nat) (0 : Nat) Option.none) r

def api_Divert__37_out (r : List UInt8 × List (List UInt8 × List UInt8 × List UInt8)) : List AO := (fun (r_838 : List UInt8 × List (List UInt8 × List UInt8 × List UInt8)) => [AO.box [AV.str (Prod.fst r_838)], AO.row (Ty.prod Ty.str (Ty.prod Ty.str Ty.str)) (Prod.snd r_838)]) r

noncomputable def api_Divert__37_b0  (s_839 : Int × Int × List UInt8 × List (List UInt8 × List UInt8 × List UInt8)) : Option ((Int × Int × List UInt8 × List (List UInt8 × List UInt8 × List UInt8)) ⊕ (Int × List UInt8 × List (List UInt8 × List UInt8 × List UInt8))) :=
  bif Decidable.decide (Prod.fst (Prod.snd s_839) < (↑(List.length (Prod.snd (Prod.snd (Prod.snd s_839)))) : Int) - (↑(0 : Nat) : Int)) then
    if (0 : Int) ≤ Prod.fst (Prod.snd s_839) ∧ Prod.fst (Prod.snd s_839) + (↑(0 : Nat) : Int) < (↑(List.length (Prod.snd (Prod.snd (Prod.snd s_839)))) : Int) then
      if (0 : Nat) + Int.toNat (Prod.fst (Prod.snd s_839)) < List.length (Prod.snd (Prod.snd (Prod.snd s_839))) then
        (divs_Drop_1 (Prod.fst (List.getD (Prod.snd (Prod.snd (Prod.snd s_839))) ((0 : Nat) + Int.toNat (Prod.fst (Prod.snd s_839))) ([], [], []))) (Prod.fst (Prod.snd (List.getD (Prod.snd (Prod.snd (Prod.snd s_839))) ((0 : Nat) + Int.toNat (Prod.fst (Prod.snd s_839))) ([], [], [])))) (Prod.snd (Prod.snd (List.getD (Prod.snd (Prod.snd (Prod.snd s_839))) ((0 : Nat) + Int.toNat (Prod.fst (Prod.snd s_839))) ([], [], [])))) (Prod.fst (Prod.snd (Prod.snd s_839)))).bind fun a_830 =>
          bif !Prod.fst a_830 then
            if (0 : Int) ≤ Prod.fst s_839 ∧ Prod.fst s_839 + (↑(0 : Nat) : Int) < (↑(List.length (Prod.snd (Prod.snd (Prod.snd s_839)))) : Int) then
              if (0 : Nat) + Int.toNat (Prod.fst s_839) < List.length (Prod.snd (Prod.snd (Prod.snd s_839))) then
                some (Sum.inl (IntKind.wrap IntKind.i64 (Prod.fst s_839 + (1 : Int)), IntKind.wrap IntKind.i64 (Prod.fst (Prod.snd s_839) + (1 : Int)), Prod.snd a_830, List.set (Prod.snd (Prod.snd (Prod.snd s_839))) ((0 : Nat) + Int.toNat (Prod.fst s_839)) (Prod.fst (List.getD (Prod.snd (Prod.snd (Prod.snd s_839))) ((0 : Nat) + Int.toNat (Prod.fst (Prod.snd s_839))) ([], [], [])), Prod.fst (Prod.snd (List.getD (Prod.snd (Prod.snd (Prod.snd s_839))) ((0 : Nat) + Int.toNat (Prod.fst (Prod.snd s_839))) ([], [], []))), Prod.snd (Prod.snd (List.getD (Prod.snd (Prod.snd (Prod.snd s_839))) ((0 : Nat) + Int.toNat (Prod.fst (Prod.snd s_839))) ([], [], []))))))
              else none
            else none
          else
            some (Sum.inl (Prod.fst s_839, IntKind.wrap IntKind.i64 (Prod.fst (Prod.snd s_839) + (1 : Int)), Prod.snd a_830, Prod.snd (Prod.snd (Prod.snd s_839))))
      else none
    else none
  else
    some (Sum.inr (Prod.fst s_839, Prod.fst (Prod.snd (Prod.snd s_839)), Prod.snd (Prod.snd (Prod.snd s_839))))

noncomputable def api_Divert__37 (o0_798 : List UInt8) (o1_799 : List (List UInt8 × List UInt8 × List UInt8)) : Option (List UInt8 × List (List UInt8 × List UInt8 × List UInt8)) :=
  (api_Divert__v3 (List.drop (0 : Nat) o1_799) (o0_798)).bind fun a_825 =>
    bif Decidable.decide (Prod.fst a_825 = (-1 : Int)) then
      some (Prod.snd a_825, o1_799)
    else
      (iter (api_Divert__37_b0 ) (Prod.fst a_825, IntKind.wrap IntKind.i64 (Prod.fst a_825 + (1 : Int)), Prod.snd a_825, o1_799)).bind (fun t_834 =>
        if (0 : Int) ≤ Prod.fst t_834 ∧ (↑(0 : Nat) : Int) + Prod.fst t_834 ≤ (↑(List.length (Prod.snd (Prod.snd t_834))) : Int) then
          if (0 : Int) ≤ (0 : Int) ∧ (0 : Int) ≤ Prod.fst t_834 ∧ (↑(0 : Nat) : Int) + Prod.fst t_834 ≤ (↑(List.length (List.take ((0 : Nat) + Int.toNat (Prod.fst t_834)) (Prod.snd (Prod.snd t_834)) ++ List.replicate (List.length (Prod.snd (Prod.snd t_834)) - ((0 : Nat) + Int.toNat (Prod.fst t_834))) ([], [], []))) : Int) then
            some (Prod.fst (Prod.snd t_834), List.take ((0 : Nat) + Int.toNat (Prod.fst t_834)) (List.take ((0 : Nat) + Int.toNat (Prod.fst t_834)) (Prod.snd (Prod.snd t_834)) ++ List.replicate (List.length (Prod.snd (Prod.snd t_834)) - ((0 : Nat) + Int.toNat (Prod.fst t_834))) ([], [], [])))
          else none
        else none)

def divs_Drop_res (r : List (List UInt8 × List UInt8 × List UInt8)) : AV := (fun (r_843 : List (List UInt8 × List UInt8 × List UInt8)) => AV.view (0 : Nat) (0 : Nat) Option.none) r

def divs_Drop_out (r : List (List UInt8 × List UInt8 × List UInt8)) : List AO := (fun (r_843 : List (List UInt8 × List UInt8 × List UInt8)) => [AO.row (Ty.prod Ty.str (Ty.prod Ty.str Ty.str)) r_843]) r

noncomputable def divs_Drop (l_795 : List (List UInt8 × List UInt8 × List UInt8)) (p_796 : List UInt8) : Option (List (List UInt8 × List UInt8 × List UInt8)) :=
  (api_Divert__33 (l_795)).bind fun a_797 =>
    (api_Divert__37 (p_796) (a_797)).bind fun a_841 =>
      some (Prod.snd a_841)

def cellarerref09_Drop_res (r : List (List UInt8 × List UInt8 × List UInt8)) : AV := (fun (r_859 : List (List UInt8 × List UInt8 × List UInt8)) => AV.view (0 : Nat) (0 : Nat) Option.none) r

def cellarerref09_Drop_out (r : List (List UInt8 × List UInt8 × List UInt8)) : List AO := (fun (r_859 : List (List UInt8 × List UInt8 × List UInt8)) => [AO.row (Ty.prod Ty.str (Ty.prod Ty.str Ty.str)) r_859]) r

noncomputable def cellarerref09_Drop_b0 (l_851 : List (List UInt8 × List UInt8 × List UInt8)) (p_852 : List UInt8) (s_860 : Int × List (List UInt8 × List UInt8 × List UInt8)) : Option ((Int × List (List UInt8 × List UInt8 × List UInt8)) ⊕ (List (List UInt8 × List UInt8 × List UInt8))) :=
  bif Decidable.decide (Prod.fst s_860 < (↑(List.length l_851) : Int)) then
    if (0 : Int) ≤ Prod.fst s_860 ∧ Prod.fst s_860 < (↑(List.length l_851) : Int) then
      bif !Decidable.decide (Prod.fst (List.getD l_851 (Int.toNat (Prod.fst s_860)) ([], [], [])) = p_852) then
        if (0 : Int) ≤ Prod.fst s_860 ∧ Prod.fst s_860 < (↑(List.length l_851) : Int) then
          if (List.length (Prod.snd s_860) + List.length ((fun (x : List (Ty.T (Ty.prod Ty.str (Ty.prod Ty.str Ty.str)))) => x) [(Prod.fst (List.getD l_851 (Int.toNat (Prod.fst s_860)) ([], [], [])), Prod.fst (Prod.snd (List.getD l_851 (Int.toNat (Prod.fst s_860)) ([], [], []))), Prod.snd (Prod.snd (List.getD l_851 (Int.toNat (Prod.fst s_860)) ([], [], []))))])) * (48 : Nat) ≤ (17592186044416 : Nat) then
            some (Sum.inl (IntKind.wrap IntKind.i64 (Prod.fst s_860 + (1 : Int)), Prod.snd s_860 ++ [(Prod.fst (List.getD l_851 (Int.toNat (Prod.fst s_860)) ([], [], [])), Prod.fst (Prod.snd (List.getD l_851 (Int.toNat (Prod.fst s_860)) ([], [], []))), Prod.snd (Prod.snd (List.getD l_851 (Int.toNat (Prod.fst s_860)) ([], [], []))))]))
          else none
        else none
      else
        some (Sum.inl (IntKind.wrap IntKind.i64 (Prod.fst s_860 + (1 : Int)), Prod.snd s_860))
    else none
  else
    some (Sum.inr (Prod.snd s_860))

noncomputable def cellarerref09_Drop (l_846 : List (List UInt8 × List UInt8 × List UInt8)) (p_847 : List UInt8) : Option (List (List UInt8 × List UInt8 × List UInt8)) :=
  (iter (cellarerref09_Drop_b0 (l_846) (p_847)) ((0 : Int), [])).bind (fun t_856 =>
    some (t_856))

def cellarerlaw09_DivsPuts_res (r : Bool) : AV := (fun (r_896 : Bool) => AV.bool r_896) r

def cellarerlaw09_DivsPuts_out (r : Bool) : List AO := (fun (r_896 : Bool) => []) r

noncomputable def cellarerlaw09_DivsPuts (l_865 : List (List UInt8 × List UInt8 × List UInt8)) (x_866 : List UInt8) (x_867 : List UInt8) (x_868 : List UInt8) (p_869 : List UInt8) : Option (Bool) :=
  Option.bind (α := Bool ⊕ Unit) (
    (cellarerlaw09_Few (l_865)).bind fun a_870 =>
      bif !a_870 then
        (cellarerlaw09_awake ).bind fun a_871 =>
          some (Sum.inl (a_871))
      else
        (cellarerlaw09_Few ([(x_866, x_867, x_868)])).bind fun a_872 =>
          bif !a_872 then
            (cellarerlaw09_awake ).bind fun a_873 =>
              some (Sum.inl (a_873))
          else
            bif Decidable.decide ((300 : Int) < (↑(List.length p_869) : Int)) then
              (cellarerlaw09_awake ).bind fun a_874 =>
                some (Sum.inl (a_874))
            else
              some (Sum.inr ())) (Sum.elim (fun t_876 =>
    some (t_876)) (fun t_877 =>
    (divs_Put (l_865) (x_866) (x_867) (x_868)).bind fun a_878 =>
      (divs_Drop (l_865) (p_869)).bind fun a_879 =>
        Option.bind (α := Unit ⊕ Unit) (
          (cellarerref09_Put (l_865) (x_866) (x_867) (x_868)).bind fun a_880 =>
            (cellarerref09_Same (List.drop (0 : Nat) a_878) (List.drop (0 : Nat) a_880)).bind fun a_881 =>
              bif !a_881 then
                some (Sum.inl ())
              else
                (cellarerref09_Drop (l_865) (p_869)).bind fun a_882 =>
                  (cellarerref09_Same (List.drop (0 : Nat) a_879) (List.drop (0 : Nat) a_882)).bind fun a_883 =>
                    bif !a_883 then
                      some (Sum.inl ())
                    else
                      (divs_Find (l_865) (p_869)).bind fun a_884 =>
                        (cellarerref09_Find (l_865) (p_869)).bind fun a_885 =>
                          bif !Decidable.decide (a_884 = a_885) then
                            some (Sum.inl ())
                          else
                            (divs_Right (x_866) (x_867) (x_868)).bind fun a_886 =>
                              (cellarerref09_Right (x_866) (x_867) (x_868)).bind fun a_887 =>
                                bif !Decidable.decide (a_886 = a_887) then
                                  some (Sum.inl ())
                                else
                                  some (Sum.inr ())) (Sum.elim (fun t_888 =>
          some (Bool.false)) (fun t_889 =>
          (divs_Find (List.drop (0 : Nat) a_878) (x_866)).bind fun a_890 =>
            bif Decidable.decide ((0 : Int) ≤ a_890) then
              bif Decidable.decide (a_890 < (↑(List.length a_878) : Int) - (↑(0 : Nat) : Int)) then
                if (0 : Int) ≤ a_890 ∧ a_890 + (↑(0 : Nat) : Int) < (↑(List.length a_878) : Int) then
                  if (0 : Nat) + Int.toNat a_890 < List.length a_878 then
                    bif Decidable.decide (Prod.fst (List.getD a_878 ((0 : Nat) + Int.toNat a_890) ([], [], [])) = x_866) && (Decidable.decide (Prod.fst (Prod.snd (List.getD a_878 ((0 : Nat) + Int.toNat a_890) ([], [], []))) = x_867) && Decidable.decide (Prod.snd (Prod.snd (List.getD a_878 ((0 : Nat) + Int.toNat a_890) ([], [], []))) = x_868)) then
                      (divs_Find (List.drop (0 : Nat) a_879) (p_869)).bind fun a_891 =>
                        bif Decidable.decide (a_891 < (0 : Int)) then
                          (cellarerlaw09_awake ).bind fun a_892 =>
                            some (a_892)
                        else
                          some (Bool.false)
                    else
                      some (Bool.false)
                  else none
                else none
              else
                some (Bool.false)
            else
              some (Bool.false)))))

end Go.Cellar
