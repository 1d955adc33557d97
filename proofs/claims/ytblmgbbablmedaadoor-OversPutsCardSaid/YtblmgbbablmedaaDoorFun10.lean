/- The program's functions, as plain Lean functions: printed by a program out of the translation. No condition. -/
import Derived.Test.YtblmgbbablmedaaDoorIns10
set_option maxRecDepth 4000
set_option synthInstance.maxHeartbeats 2000000
set_option synthInstance.maxSize 100000
set_option linter.unusedVariables false
namespace Go.Cellar
open Go

def cellarerlaw10_few_res (r : Bool) : AV := (fun (r_8 : Bool) => AV.bool r_8) r

def cellarerlaw10_few_out (r : Bool) : List AO := (fun (r_8 : Bool) => []) r

noncomputable def cellarerlaw10_few_b0 (l_2 : List (List UInt8 × Int × Int × Int)) (s_9 : Int) : Option ((Int) ⊕ (Unit ⊕ Unit)) :=
  bif Decidable.decide (s_9 < (↑(List.length l_2) : Int)) then
    if (0 : Int) ≤ s_9 ∧ s_9 < (↑(List.length l_2) : Int) then
      bif Decidable.decide ((300 : Int) < (↑(List.length (Prod.fst (List.getD l_2 (Int.toNat s_9) ([], (0 : Int), (0 : Int), (0 : Int))))) : Int)) then
        some (Sum.inr (Sum.inl ()))
      else
        some (Sum.inl (IntKind.wrap IntKind.i64 (s_9 + (1 : Int))))
    else none
  else
    some (Sum.inr (Sum.inr ()))

noncomputable def cellarerlaw10_few (l_1 : List (List UInt8 × Int × Int × Int)) : Option (Bool) :=
  bif Decidable.decide ((70 : Int) < (↑(List.length l_1) : Int)) then
    some (Bool.false)
  else
    (iter (cellarerlaw10_few_b0 (l_1)) ((0 : Int))).bind (Sum.elim (fun t_4 =>
      some (Bool.false)) (fun t_5 =>
      some (Bool.true)))

def stringslite_HasSuffix_res (r : Bool) : AV := (fun (r_18 : Bool) => AV.bool r_18) r

def stringslite_HasSuffix_out (r : Bool) : List AO := (fun (r_18 : Bool) => []) r

noncomputable def stringslite_HasSuffix (s_15 : List UInt8) (suffix_16 : List UInt8) : Option (Bool) :=
  bif Decidable.decide ((↑(List.length suffix_16) : Int) ≤ (↑(List.length s_15) : Int)) then
    if (0 : Int) ≤ IntKind.wrap IntKind.i64 ((↑(List.length s_15) : Int) - (↑(List.length suffix_16) : Int)) ∧ IntKind.wrap IntKind.i64 ((↑(List.length s_15) : Int) - (↑(List.length suffix_16) : Int)) ≤ (↑(List.length s_15) : Int) ∧ (↑(List.length s_15) : Int) ≤ (↑(List.length s_15) : Int) then
      some (Decidable.decide (List.drop (Int.toNat (IntKind.wrap IntKind.i64 ((↑(List.length s_15) : Int) - (↑(List.length suffix_16) : Int)))) (List.take (Int.toNat (↑(List.length s_15) : Int)) s_15) = suffix_16))
    else none
  else
    some (Bool.false)

def strings_HasSuffix_res (r : Bool) : AV := (fun (r_21 : Bool) => AV.bool r_21) r

def strings_HasSuffix_out (r : Bool) : List AO := (fun (r_21 : Bool) => []) r

noncomputable def strings_HasSuffix (s_13 : List UInt8) (suffix_14 : List UInt8) : Option (Bool) :=
  (stringslite_HasSuffix (s_13) (suffix_14)).bind fun a_19 =>
    some (a_19)

def stringslite_IndexByte_res (r : Int) : AV := (fun (r_53 : Int) => AV.int IntKind.i64 r_53) r

def stringslite_IndexByte_out (r : Int) : List AO := (fun (r_53 : Int) => []) r

noncomputable def stringslite_IndexByte (s_50 : List UInt8) (c_51 : Int) : Option (Int) :=
  if (0 : Int) ≤ c_51 ∧ c_51 < (256 : Int) then
    some (idxByte c_51 s_50 (0 : Int))
  else none

def stringslite_Index_res (r : Int) : AV := (fun (r_62 : Int) => AV.int IntKind.i64 r_62) r

def stringslite_Index_out (r : Int) : List AO := (fun (r_62 : Int) => []) r

noncomputable def stringslite_Index (s_55 : List UInt8) (substr_56 : List UInt8) : Option (Int) :=
  Option.bind (α := Int) (
    bif Decidable.decide ((↑(List.length substr_56) : Int) = (0 : Int)) then
      some ((0 : Int))
    else
      bif Decidable.decide (substr_56 = s_55) then
        some ((0 : Int))
      else
        bif Decidable.decide ((↑(List.length substr_56) : Int) = (1 : Int)) then
          if (0 : Int) ≤ (0 : Int) ∧ (0 : Int) < (↑(List.length substr_56) : Int) then
            (stringslite_IndexByte (s_55) ((↑(UInt8.toNat (List.getD substr_56 (Int.toNat (0 : Int)) (0 : UInt8))) : Int))).bind fun a_57 =>
              some (a_57)
          else none
        else
          bif Decidable.decide ((↑(List.length s_55) : Int) ≤ (↑(List.length substr_56) : Int)) then
            some ((-1 : Int))
          else
            none) (fun t_59 =>
    some (t_59))

def strings_Index_res (r : Int) : AV := (fun (r_65 : Int) => AV.int IntKind.i64 r_65) r

def strings_Index_out (r : Int) : List AO := (fun (r_65 : Int) => []) r

noncomputable def strings_Index (s_46 : List UInt8) (substr_47 : List UInt8) : Option (Int) :=
  (stringslite_Index (s_46) (substr_47)).bind fun a_63 =>
    some (a_63)

def strings_Count_res (r : Int) : AV := (fun (r_71 : Int) => AV.int IntKind.i64 r_71) r

def strings_Count_out (r : Int) : List AO := (fun (r_71 : Int) => []) r

noncomputable def strings_Count_b0 (substr_44 : List UInt8) (s_72 : List UInt8 × Int) : Option ((List UInt8 × Int) ⊕ (Int)) :=
  (strings_Index (Prod.fst s_72) (substr_44)).bind fun a_66 =>
    bif Decidable.decide (a_66 = (-1 : Int)) then
      some (Sum.inr (Prod.snd s_72))
    else
      if (0 : Int) ≤ IntKind.wrap IntKind.i64 (a_66 + (↑(List.length substr_44) : Int)) ∧ IntKind.wrap IntKind.i64 (a_66 + (↑(List.length substr_44) : Int)) ≤ (↑(List.length (Prod.fst s_72)) : Int) ∧ (↑(List.length (Prod.fst s_72)) : Int) ≤ (↑(List.length (Prod.fst s_72)) : Int) then
        some (Sum.inl (List.drop (Int.toNat (IntKind.wrap IntKind.i64 (a_66 + (↑(List.length substr_44) : Int)))) (List.take (Int.toNat (↑(List.length (Prod.fst s_72)) : Int)) (Prod.fst s_72)), IntKind.wrap IntKind.i64 (Prod.snd s_72 + (1 : Int))))
      else none

noncomputable def strings_Count (s_41 : List UInt8) (substr_42 : List UInt8) : Option (Int) :=
  bif Decidable.decide ((↑(List.length substr_42) : Int) = (0 : Int)) then
    none
  else
    bif Decidable.decide ((↑(List.length substr_42) : Int) = (1 : Int)) then
      if (0 : Int) ≤ (0 : Int) ∧ (0 : Int) < (↑(List.length substr_42) : Int) then
        some ((↑(List.count (Nat.toUInt8 (Int.toNat (↑(UInt8.toNat (List.getD substr_42 (Int.toNat (0 : Int)) (0 : UInt8))) : Int))) s_41) : Int))
      else none
    else
      (iter (strings_Count_b0 (substr_42)) (s_41, (0 : Int))).bind (fun t_68 =>
        some (t_68))

def strings_genSplit_res (r : List (List UInt8)) : AV := (fun (r_91 : List (List UInt8)) => AV.view (0 : Nat) (0 : Nat) Option.none) r

def strings_genSplit_out (r : List (List UInt8)) : List AO := (fun (r_91 : List (List UInt8)) => [AO.row Ty.str r_91]) r

noncomputable def strings_genSplit_b0 (sep_78 : List UInt8) (sepSave_79 : Int) (n_80 : Int) (s_92 : List UInt8 × Int × List (List UInt8)) : Option ((List UInt8 × Int × List (List UInt8)) ⊕ (List UInt8 × Int × List (List UInt8))) :=
  bif Decidable.decide (Prod.fst (Prod.snd s_92) < n_80) then
    (strings_Index (Prod.fst s_92) (sep_78)).bind fun a_83 =>
      bif Decidable.decide (a_83 < (0 : Int)) then
        some (Sum.inr (Prod.fst s_92, Prod.fst (Prod.snd s_92), Prod.snd (Prod.snd s_92)))
      else
        if (0 : Int) ≤ (0 : Int) ∧ (0 : Int) ≤ IntKind.wrap IntKind.i64 (a_83 + sepSave_79) ∧ IntKind.wrap IntKind.i64 (a_83 + sepSave_79) ≤ (↑(List.length (Prod.fst s_92)) : Int) then
          if (0 : Int) ≤ Prod.fst (Prod.snd s_92) ∧ Prod.fst (Prod.snd s_92) + (↑(0 : Nat) : Int) < (↑(List.length (Prod.snd (Prod.snd s_92))) : Int) then
            if (0 : Nat) + Int.toNat (Prod.fst (Prod.snd s_92)) < List.length (Prod.snd (Prod.snd s_92)) then
              if (0 : Int) ≤ IntKind.wrap IntKind.i64 (a_83 + (↑(List.length sep_78) : Int)) ∧ IntKind.wrap IntKind.i64 (a_83 + (↑(List.length sep_78) : Int)) ≤ (↑(List.length (Prod.fst s_92)) : Int) ∧ (↑(List.length (Prod.fst s_92)) : Int) ≤ (↑(List.length (Prod.fst s_92)) : Int) then
                some (Sum.inl (List.drop (Int.toNat (IntKind.wrap IntKind.i64 (a_83 + (↑(List.length sep_78) : Int)))) (List.take (Int.toNat (↑(List.length (Prod.fst s_92)) : Int)) (Prod.fst s_92)), IntKind.wrap IntKind.i64 (Prod.fst (Prod.snd s_92) + (1 : Int)), List.set (Prod.snd (Prod.snd s_92)) ((0 : Nat) + Int.toNat (Prod.fst (Prod.snd s_92))) (List.drop (Int.toNat (0 : Int)) (List.take (Int.toNat (IntKind.wrap IntKind.i64 (a_83 + sepSave_79))) (Prod.fst s_92)))))
              else none
            else none
          else none
        else none
  else
    some (Sum.inr (Prod.fst s_92, Prod.fst (Prod.snd s_92), Prod.snd (Prod.snd s_92)))

noncomputable def strings_genSplit (s_35 : List UInt8) (sep_36 : List UInt8) (sepSave_37 : Int) (n_38 : Int) : Option (List (List UInt8)) :=
  bif Decidable.decide (n_38 = (0 : Int)) then
    some ([])
  else
    bif Decidable.decide (sep_36 = []) then
      none
    else
      Option.bind (α := Int) (
        bif Decidable.decide (n_38 < (0 : Int)) then
          (strings_Count (s_35) (sep_36)).bind fun a_74 =>
            some (IntKind.wrap IntKind.i64 (a_74 + (1 : Int)))
        else
          some (n_38)) (fun t_76 =>
        if ((0 : Int) ≤ if IntKind.wrap IntKind.i64 ((↑(List.length s_35) : Int) + (1 : Int)) < t_76 then IntKind.wrap IntKind.i64 ((↑(List.length s_35) : Int) + (1 : Int)) else t_76) ∧ ((if IntKind.wrap IntKind.i64 ((↑(List.length s_35) : Int) + (1 : Int)) < t_76 then IntKind.wrap IntKind.i64 ((↑(List.length s_35) : Int) + (1 : Int)) else t_76) ≤ if IntKind.wrap IntKind.i64 ((↑(List.length s_35) : Int) + (1 : Int)) < t_76 then IntKind.wrap IntKind.i64 ((↑(List.length s_35) : Int) + (1 : Int)) else t_76) ∧ (if IntKind.wrap IntKind.i64 ((↑(List.length s_35) : Int) + (1 : Int)) < t_76 then IntKind.wrap IntKind.i64 ((↑(List.length s_35) : Int) + (1 : Int)) else t_76) ≤ (140737488355328 : Int) ∧ ((↑(16 : Nat) : Int) * if IntKind.wrap IntKind.i64 ((↑(List.length s_35) : Int) + (1 : Int)) < t_76 then IntKind.wrap IntKind.i64 ((↑(List.length s_35) : Int) + (1 : Int)) else t_76) ≤ (140737488355328 : Int) then
          (iter (strings_genSplit_b0 (sep_36) (sepSave_37) (IntKind.wrap IntKind.i64 ((if IntKind.wrap IntKind.i64 ((↑(List.length s_35) : Int) + (1 : Int)) < t_76 then IntKind.wrap IntKind.i64 ((↑(List.length s_35) : Int) + (1 : Int)) else t_76) - (1 : Int)))) (s_35, (0 : Int), List.replicate (Int.toNat (if IntKind.wrap IntKind.i64 ((↑(List.length s_35) : Int) + (1 : Int)) < t_76 then IntKind.wrap IntKind.i64 ((↑(List.length s_35) : Int) + (1 : Int)) else t_76)) [])).bind (fun t_87 =>
            if (0 : Int) ≤ Prod.fst (Prod.snd t_87) ∧ Prod.fst (Prod.snd t_87) + (↑(0 : Nat) : Int) < (↑(List.length (Prod.snd (Prod.snd t_87))) : Int) then
              if (0 : Nat) + Int.toNat (Prod.fst (Prod.snd t_87)) < List.length (Prod.snd (Prod.snd t_87)) then
                if (0 : Int) ≤ (0 : Int) ∧ (0 : Int) ≤ IntKind.wrap IntKind.i64 (Prod.fst (Prod.snd t_87) + (1 : Int)) ∧ (↑(0 : Nat) : Int) + IntKind.wrap IntKind.i64 (Prod.fst (Prod.snd t_87) + (1 : Int)) ≤ (↑(List.length (List.set (Prod.snd (Prod.snd t_87)) ((0 : Nat) + Int.toNat (Prod.fst (Prod.snd t_87))) (Prod.fst t_87))) : Int) then
                  some (List.take ((0 : Nat) + Int.toNat (IntKind.wrap IntKind.i64 (Prod.fst (Prod.snd t_87) + (1 : Int)))) (List.set (Prod.snd (Prod.snd t_87)) ((0 : Nat) + Int.toNat (Prod.fst (Prod.snd t_87))) (Prod.fst t_87)))
                else none
              else none
            else none)
        else none)

def strings_Split_res (r : List (List UInt8)) : AV := (fun (r_96 : List (List UInt8)) => AV.view (0 : Nat) (0 : Nat) Option.none) r

def strings_Split_out (r : List (List UInt8)) : List AO := (fun (r_96 : List (List UInt8)) => [AO.row Ty.str r_96]) r

noncomputable def strings_Split (s_23 : List UInt8) (sep_24 : List UInt8) : Option (List (List UInt8)) :=
  (strings_genSplit (s_23) (sep_24) ((0 : Int)) ((-1 : Int))).bind fun a_94 =>
    some (a_94)

def stanza_Lines_res (r : Int × List (List UInt8)) : AV := (fun (r_100 : Int × List (List UInt8)) => AV.tup [AV.view (0 : Nat) (0 : Nat) Option.none, AV.int IntKind.i64 (Prod.fst r_100)]) r

def stanza_Lines_out (r : Int × List (List UInt8)) : List AO := (fun (r_100 : Int × List (List UInt8)) => [AO.row Ty.str (Prod.snd r_100)]) r

noncomputable def stanza_Lines (s_12 : List UInt8) : Option (Int × List (List UInt8)) :=
  bif Decidable.decide (s_12 = []) then
    some ((0 : Int), [])
  else
    (strings_HasSuffix (s_12) ([(10 : UInt8)])).bind fun a_22 =>
      bif !a_22 then
        some ((2 : Int), [])
      else
        if (0 : Int) ≤ (0 : Int) ∧ (0 : Int) ≤ IntKind.wrap IntKind.i64 ((↑(List.length s_12) : Int) - (1 : Int)) ∧ IntKind.wrap IntKind.i64 ((↑(List.length s_12) : Int) - (1 : Int)) ≤ (↑(List.length s_12) : Int) then
          (strings_Split (List.drop (Int.toNat (0 : Int)) (List.take (Int.toNat (IntKind.wrap IntKind.i64 ((↑(List.length s_12) : Int) - (1 : Int)))) s_12)) ([(10 : UInt8)])).bind fun a_97 =>
            some ((0 : Int), a_97)
        else none

def stringslite_HasPrefix_res (r : Bool) : AV := (fun (r_116 : Bool) => AV.bool r_116) r

def stringslite_HasPrefix_out (r : Bool) : List AO := (fun (r_116 : Bool) => []) r

noncomputable def stringslite_HasPrefix (s_113 : List UInt8) (prefix_114 : List UInt8) : Option (Bool) :=
  bif Decidable.decide ((↑(List.length prefix_114) : Int) ≤ (↑(List.length s_113) : Int)) then
    if (0 : Int) ≤ (0 : Int) ∧ (0 : Int) ≤ (↑(List.length prefix_114) : Int) ∧ (↑(List.length prefix_114) : Int) ≤ (↑(List.length s_113) : Int) then
      some (Decidable.decide (List.drop (Int.toNat (0 : Int)) (List.take (Int.toNat (↑(List.length prefix_114) : Int)) s_113) = prefix_114))
    else none
  else
    some (Bool.false)

def stringslite_TrimPrefix_res (r : List UInt8) : AV := (fun (r_119 : List UInt8) => AV.str r_119) r

def stringslite_TrimPrefix_out (r : List UInt8) : List AO := (fun (r_119 : List UInt8) => []) r

noncomputable def stringslite_TrimPrefix (s_111 : List UInt8) (prefix_112 : List UInt8) : Option (List UInt8) :=
  (stringslite_HasPrefix (s_111) (prefix_112)).bind fun a_117 =>
    bif a_117 then
      if (0 : Int) ≤ (↑(List.length prefix_112) : Int) ∧ (↑(List.length prefix_112) : Int) ≤ (↑(List.length s_111) : Int) ∧ (↑(List.length s_111) : Int) ≤ (↑(List.length s_111) : Int) then
        some (List.drop (Int.toNat (↑(List.length prefix_112) : Int)) (List.take (Int.toNat (↑(List.length s_111) : Int)) s_111))
      else none
    else
      some (s_111)

def strings_TrimPrefix_res (r : List UInt8) : AV := (fun (r_122 : List UInt8) => AV.str r_122) r

def strings_TrimPrefix_out (r : List UInt8) : List AO := (fun (r_122 : List UInt8) => []) r

noncomputable def strings_TrimPrefix (s_109 : List UInt8) (prefix_110 : List UInt8) : Option (List UInt8) :=
  (stringslite_TrimPrefix (s_109) (prefix_110)).bind fun a_120 =>
    some (a_120)

def bits_Text_res (r : List UInt8) : AV := (fun (r_160 : List UInt8) => AV.str r_160) r

def bits_Text_out (r : List UInt8) : List AO := (fun (r_160 : List UInt8) => []) r

noncomputable def bits_Text_b0  (s_161 : Int × Int × List Int) : Option ((Int × Int × List Int) ⊕ (Int × List Int)) :=
  Option.bind (α := Unit ⊕ Unit) (
    bif Decidable.decide (Prod.fst (Prod.snd s_161) = (20 : Int)) then
      some (Sum.inl ())
    else
      bif Decidable.decide ((0 : Int) < Prod.fst s_161) then
        some (Sum.inl ())
      else
        some (Sum.inr ())) (Sum.elim (fun t_151 =>
    if (0 : Int) ≤ IntKind.wrap IntKind.i64 (Prod.fst (Prod.snd s_161) - (1 : Int)) ∧ IntKind.wrap IntKind.i64 (Prod.fst (Prod.snd s_161) - (1 : Int)) < (↑(20 : Nat) : Int) ∧ IntKind.wrap IntKind.i64 (Prod.fst (Prod.snd s_161) - (1 : Int)) < (↑(List.length (Prod.snd (Prod.snd s_161))) : Int) then
      if Int.toNat (IntKind.wrap IntKind.i64 (Prod.fst (Prod.snd s_161) - (1 : Int))) < List.length (Prod.snd (Prod.snd s_161)) then
        some (Sum.inl (IntKind.wrap IntKind.u64 (Int.tdiv (Prod.fst s_161) (10 : Int)), IntKind.wrap IntKind.i64 (Prod.fst (Prod.snd s_161) - (1 : Int)), List.set (Prod.snd (Prod.snd s_161)) (Int.toNat (IntKind.wrap IntKind.i64 (Prod.fst (Prod.snd s_161) - (1 : Int)))) (IntKind.wrap IntKind.u8 ((48 : Int) + IntKind.wrap IntKind.u8 (Int.tmod (Prod.fst s_161) (10 : Int))))))
      else none
    else none) (fun t_152 =>
    some (Sum.inr (Prod.fst (Prod.snd s_161), Prod.snd (Prod.snd s_161)))))

noncomputable def bits_Text (n_144 : Int) : Option (List UInt8) :=
  Option.bind (α := Int) (
    bif Decidable.decide (n_144 < (0 : Int)) then
      some (IntKind.wrap IntKind.u64 ((0 : Int) - IntKind.wrap IntKind.u64 n_144))
    else
      some (IntKind.wrap IntKind.u64 n_144)) (fun t_146 =>
    (iter (bits_Text_b0 ) (t_146, (20 : Int), List.replicate (20 : Nat) (0 : Int))).bind (fun t_156 =>
      bif Decidable.decide (n_144 < (0 : Int)) then
        if List.length (Prod.snd t_156) = (20 : Nat) ∧ (0 : Int) ≤ Prod.fst t_156 ∧ Prod.fst t_156 ≤ (↑(20 : Nat) : Int) ∧ (↑(20 : Nat) : Int) ≤ (↑(20 : Nat) : Int) then
          if List.length ((fun (x : List UInt8) => x) [(45 : UInt8)]) + List.length (List.map (fun (n : Int) => UInt8.ofNat (Int.toNat n)) (List.drop (Int.toNat (Prod.fst t_156)) (List.take (20 : Nat) (Prod.snd t_156)))) ≤ (140737488355328 : Nat) then
            some ([(45 : UInt8)] ++ List.map (fun (n : Int) => UInt8.ofNat (Int.toNat n)) (List.drop (Int.toNat (Prod.fst t_156)) (List.take (20 : Nat) (Prod.snd t_156))))
          else none
        else none
      else
        if List.length (Prod.snd t_156) = (20 : Nat) ∧ (0 : Int) ≤ Prod.fst t_156 ∧ Prod.fst t_156 ≤ (↑(20 : Nat) : Int) ∧ (↑(20 : Nat) : Int) ≤ (↑(20 : Nat) : Int) then
          some (List.map (fun (n : Int) => UInt8.ofNat (Int.toNat n)) (List.drop (Int.toNat (Prod.fst t_156)) (List.take (20 : Nat) (Prod.snd t_156))))
        else none))

def bits_Int_res (r : Int × Int) : AV := (fun (r_170 : Int × Int) => AV.tup [AV.int IntKind.i64 (Prod.fst r_170), AV.int IntKind.i64 (Prod.snd r_170)]) r

def bits_Int_out (r : Int × Int) : List AO := (fun (r_170 : Int × Int) => []) r

noncomputable def bits_Int_b0 (digits_131 : List UInt8) (t_134 : Int) (s_171 : Int × Int) : Option ((Int × Int) ⊕ (Unit ⊕ Int)) :=
  bif Decidable.decide (Prod.snd s_171 < t_134) then
    Option.bind (α := Unit ⊕ Unit) (
      if (0 : Int) ≤ Prod.snd s_171 ∧ Prod.snd s_171 < (↑(List.length digits_131) : Int) then
        bif Decidable.decide ((↑(UInt8.toNat (List.getD digits_131 (Int.toNat (Prod.snd s_171)) (0 : UInt8))) : Int) < (48 : Int)) then
          some (Sum.inl ())
        else
          if (0 : Int) ≤ Prod.snd s_171 ∧ Prod.snd s_171 < (↑(List.length digits_131) : Int) then
            bif Decidable.decide ((57 : Int) < (↑(UInt8.toNat (List.getD digits_131 (Int.toNat (Prod.snd s_171)) (0 : UInt8))) : Int)) then
              some (Sum.inl ())
            else
              some (Sum.inr ())
          else none
      else none) (Sum.elim (fun t_136 =>
      some (Sum.inr (Sum.inl ()))) (fun t_137 =>
      if (0 : Int) ≤ Prod.snd s_171 ∧ Prod.snd s_171 < (↑(List.length digits_131) : Int) then
        some (Sum.inl (IntKind.wrap IntKind.u64 (IntKind.wrap IntKind.u64 (Prod.fst s_171 * (10 : Int)) + IntKind.wrap IntKind.u64 (IntKind.wrap IntKind.u8 ((↑(UInt8.toNat (List.getD digits_131 (Int.toNat (Prod.snd s_171)) (0 : UInt8))) : Int) - (48 : Int)))), IntKind.wrap IntKind.i64 (Prod.snd s_171 + (1 : Int))))
      else none))
  else
    some (Sum.inr (Sum.inr (Prod.fst s_171)))

noncomputable def bits_Int (s_124 : List UInt8) : Option (Int × Int) :=
  Option.bind (α := List UInt8 × Bool) (
    bif Decidable.decide ((0 : Int) < (↑(List.length s_124) : Int)) then
      if (0 : Int) ≤ (0 : Int) ∧ (0 : Int) < (↑(List.length s_124) : Int) then
        bif Decidable.decide ((↑(UInt8.toNat (List.getD s_124 (Int.toNat (0 : Int)) (0 : UInt8))) : Int) = (45 : Int)) then
          if (0 : Int) ≤ (1 : Int) ∧ (1 : Int) ≤ (↑(List.length s_124) : Int) ∧ (↑(List.length s_124) : Int) ≤ (↑(List.length s_124) : Int) then
            some (List.drop (Int.toNat (1 : Int)) (List.take (Int.toNat (↑(List.length s_124) : Int)) s_124), Bool.true)
          else none
        else
          some (s_124, Bool.false)
      else none
    else
      some (s_124, Bool.false)) (fun t_127 =>
    Option.bind (α := Unit ⊕ Unit) (
      bif Decidable.decide ((↑(List.length (Prod.fst t_127)) : Int) = (0 : Int)) then
        some (Sum.inl ())
      else
        bif Decidable.decide ((19 : Int) < (↑(List.length (Prod.fst t_127)) : Int)) then
          some (Sum.inl ())
        else
          some (Sum.inr ())) (Sum.elim (fun t_128 =>
      some ((0 : Int), (2 : Int))) (fun t_129 =>
      (iter (bits_Int_b0 (Prod.fst t_127) ((↑(List.length (Prod.fst t_127)) : Int))) ((0 : Int), (0 : Int))).bind (Sum.elim (fun t_139 =>
        some ((0 : Int), (2 : Int))) (fun t_141 =>
        Option.bind (α := Int) (
          bif Prod.snd t_127 then
            some (IntKind.wrap IntKind.i64 (IntKind.wrap IntKind.u64 ((0 : Int) - t_141)))
          else
            some (IntKind.wrap IntKind.i64 t_141)) (fun t_143 =>
          (bits_Text (t_143)).bind fun a_163 =>
            bif !Decidable.decide (a_163 = s_124) then
              some ((0 : Int), (2 : Int))
            else
              some (t_143, (0 : Int))))))))

def strings_HasPrefix_res (r : Bool) : AV := (fun (r_178 : Bool) => AV.bool r_178) r

def strings_HasPrefix_out (r : Bool) : List AO := (fun (r_178 : Bool) => []) r

noncomputable def strings_HasPrefix (s_174 : List UInt8) (prefix_175 : List UInt8) : Option (Bool) :=
  (stringslite_HasPrefix (s_174) (prefix_175)).bind fun a_176 =>
    some (a_176)

def overs_reader__id_res (r : Int × Bool) : AV := (fun (r_182 : Int × Bool) => AV.int IntKind.i64 (Prod.fst r_182)) r

def overs_reader__id_out (r : Int × Bool) : List AO := (fun (r_182 : Int × Bool) => [AO.box [AV.bool (Prod.snd r_182)]]) r

noncomputable def overs_reader__id (s_107 : List UInt8) (o0_108 : Bool) : Option (Int × Bool) :=
  (strings_TrimPrefix (s_107) ([(35 : UInt8)])).bind fun a_123 =>
    (bits_Int (a_123)).bind fun a_173 =>
      bif o0_108 then
        some (Prod.fst a_173, Bool.true)
      else
        bif !Decidable.decide (Prod.snd a_173 = (0 : Int)) then
          some (Prod.fst a_173, Bool.true)
        else
          (strings_HasPrefix (s_107) ([(35 : UInt8)])).bind fun a_179 =>
            some (Prod.fst a_173, !a_179)

def bits_ParseOctal_res (r : Int × Int) : AV := (fun (r_201 : Int × Int) => AV.tup [AV.int IntKind.i64 (Prod.fst r_201), AV.int IntKind.i64 (Prod.snd r_201)]) r

def bits_ParseOctal_out (r : Int × Int) : List AO := (fun (r_201 : Int × Int) => []) r

noncomputable def bits_ParseOctal_b0 (s_188 : List UInt8) (t_190 : Int) (s_202 : Int × Int) : Option ((Int × Int) ⊕ (Unit ⊕ Int)) :=
  bif Decidable.decide (Prod.snd s_202 < t_190) then
    Option.bind (α := Unit ⊕ Unit) (
      if (0 : Int) ≤ Prod.snd s_202 ∧ Prod.snd s_202 < (↑(List.length s_188) : Int) then
        bif Decidable.decide ((↑(UInt8.toNat (List.getD s_188 (Int.toNat (Prod.snd s_202)) (0 : UInt8))) : Int) < (48 : Int)) then
          some (Sum.inl ())
        else
          if (0 : Int) ≤ Prod.snd s_202 ∧ Prod.snd s_202 < (↑(List.length s_188) : Int) then
            bif Decidable.decide ((55 : Int) < (↑(UInt8.toNat (List.getD s_188 (Int.toNat (Prod.snd s_202)) (0 : UInt8))) : Int)) then
              some (Sum.inl ())
            else
              some (Sum.inr ())
          else none
      else none) (Sum.elim (fun t_192 =>
      some (Sum.inr (Sum.inl ()))) (fun t_193 =>
      if (0 : Int) ≤ Prod.snd s_202 ∧ Prod.snd s_202 < (↑(List.length s_188) : Int) then
        some (Sum.inl (IntKind.wrap IntKind.i64 (↑(BitVec.toNat (BitVec.ofInt (IntKind.bits IntKind.i64) (IntKind.wrap IntKind.i64 (Prod.fst s_202 * (2 : Int) ^ Min.min (Int.toNat (3 : Int)) (IntKind.bits IntKind.i64))) ||| BitVec.ofInt (IntKind.bits IntKind.i64) (IntKind.wrap IntKind.i64 (IntKind.wrap IntKind.u8 ((↑(UInt8.toNat (List.getD s_188 (Int.toNat (Prod.snd s_202)) (0 : UInt8))) : Int) - (48 : Int)))))) : Int), IntKind.wrap IntKind.i64 (Prod.snd s_202 + (1 : Int))))
      else none))
  else
    some (Sum.inr (Sum.inr (Prod.fst s_202)))

noncomputable def bits_ParseOctal (s_187 : List UInt8) : Option (Int × Int) :=
  bif !Decidable.decide ((↑(List.length s_187) : Int) = (4 : Int)) then
    some ((0 : Int), (2 : Int))
  else
    (iter (bits_ParseOctal_b0 (s_187) ((↑(List.length s_187) : Int))) ((0 : Int), (0 : Int))).bind (Sum.elim (fun t_195 =>
      some ((0 : Int), (2 : Int))) (fun t_197 =>
      some (t_197, (0 : Int))))

def overs_reader__mode_res (r : Int × Bool) : AV := (fun (r_207 : Int × Bool) => AV.int IntKind.i64 (Prod.fst r_207)) r

def overs_reader__mode_out (r : Int × Bool) : List AO := (fun (r_207 : Int × Bool) => [AO.box [AV.bool (Prod.snd r_207)]]) r

noncomputable def overs_reader__mode (s_185 : List UInt8) (o0_186 : Bool) : Option (Int × Bool) :=
  (bits_ParseOctal (s_185)).bind fun a_204 =>
    bif o0_186 then
      some (Prod.fst a_204, Bool.true)
    else
      some (Prod.fst a_204, !Decidable.decide (Prod.snd a_204 = (0 : Int)))

def path_plain_res (r : Bool) : AV := (fun (r_242 : Bool) => AV.bool r_242) r

def path_plain_out (r : Bool) : List AO := (fun (r_242 : Bool) => []) r

noncomputable def path_plain_b0 (s_234 : List UInt8) (t_235 : Int) (s_243 : Int) : Option ((Int) ⊕ (Unit ⊕ Unit)) :=
  bif Decidable.decide (s_243 < t_235) then
    if (0 : Int) ≤ s_243 ∧ s_243 < (↑(List.length s_234) : Int) then
      bif Decidable.decide ((↑(UInt8.toNat (List.getD s_234 (Int.toNat s_243) (0 : UInt8))) : Int) < (33 : Int)) then
        some (Sum.inr (Sum.inl ()))
      else
        if (0 : Int) ≤ s_243 ∧ s_243 < (↑(List.length s_234) : Int) then
          bif Decidable.decide ((126 : Int) < (↑(UInt8.toNat (List.getD s_234 (Int.toNat s_243) (0 : UInt8))) : Int)) then
            some (Sum.inr (Sum.inl ()))
          else
            some (Sum.inl (IntKind.wrap IntKind.i64 (s_243 + (1 : Int))))
        else none
    else none
  else
    some (Sum.inr (Sum.inr ()))

noncomputable def path_plain (s_233 : List UInt8) : Option (Bool) :=
  (iter (path_plain_b0 (s_233) ((↑(List.length s_233) : Int))) ((0 : Int))).bind (Sum.elim (fun t_237 =>
    some (Bool.false)) (fun t_238 =>
    (strings_HasPrefix (s_233) ([(47 : UInt8)])).bind fun a_239 =>
      some (a_239)))

def path_Parts_1_res (r : Bool) : AV := (fun (r_254 : Bool) => AV.bool r_254) r

def path_Parts_1_out (r : Bool) : List AO := (fun (r_254 : Bool) => []) r

noncomputable def path_Parts_1 (p_252 : List UInt8) : Option (Bool) :=
  some (!Decidable.decide (p_252 = []))

def path_keep_string__res (r : List (List UInt8)) : AV := (fun (r_265 : List (List UInt8)) => AV.view (0 : Nat) (0 : Nat) Option.none) r

def path_keep_string__out (r : List (List UInt8)) : List AO := (fun (r_265 : List (List UInt8)) => [AO.row Ty.str r_265]) r

noncomputable def path_keep_string__b0 (t_256 : List (List UInt8)) (t_257 : Int) (s_266 : Int × List (List UInt8)) : Option ((Int × List (List UInt8)) ⊕ (List (List UInt8))) :=
  bif Decidable.decide (Prod.fst s_266 < t_257) then
    if (0 : Int) ≤ Prod.fst s_266 ∧ Prod.fst s_266 < (↑(List.length t_256) : Int) then
      (path_Parts_1 (List.getD t_256 (Int.toNat (Prod.fst s_266)) [])).bind fun a_260 =>
        bif a_260 then
          if (List.length (Prod.snd s_266) + List.length ((fun (x : List (Ty.T Ty.str)) => x) [List.getD t_256 (Int.toNat (Prod.fst s_266)) []])) * (16 : Nat) ≤ (17592186044416 : Nat) then
            some (Sum.inl (IntKind.wrap IntKind.i64 (Prod.fst s_266 + (1 : Int)), Prod.snd s_266 ++ [List.getD t_256 (Int.toNat (Prod.fst s_266)) []]))
          else none
        else
          some (Sum.inl (IntKind.wrap IntKind.i64 (Prod.fst s_266 + (1 : Int)), Prod.snd s_266))
    else none
  else
    some (Sum.inr (Prod.snd s_266))

noncomputable def path_keep_string_ (l_248 : List (List UInt8)) : Option (List (List UInt8)) :=
  (iter (path_keep_string__b0 (l_248) ((↑(List.length l_248) : Int))) ((0 : Int), [])).bind (fun t_262 =>
    some (t_262))

def path_Parts_res (r : List (List UInt8)) : AV := (fun (r_270 : List (List UInt8)) => AV.view (0 : Nat) (0 : Nat) Option.none) r

def path_Parts_out (r : List (List UInt8)) : List AO := (fun (r_270 : List (List UInt8)) => [AO.row Ty.str r_270]) r

noncomputable def path_Parts (s_246 : List UInt8) : Option (List (List UInt8)) :=
  (strings_Split (s_246) ([(47 : UInt8)])).bind fun a_247 =>
    (path_keep_string_ (List.drop (0 : Nat) a_247)).bind fun a_268 =>
      some (a_268)

def path_Clean_res (r : List UInt8 × Int) : AV := (fun (r_285 : List UInt8 × Int) => AV.tup [AV.str (Prod.fst r_285), AV.int IntKind.i64 (Prod.snd r_285)]) r

def path_Clean_out (r : List UInt8 × Int) : List AO := (fun (r_285 : List UInt8 × Int) => []) r

noncomputable def path_Clean_b0 (t_275 : Int) (o1_278 : List (List UInt8)) (s_286 : Int × List (List UInt8)) : Option ((Int × List (List UInt8)) ⊕ (List (List UInt8))) :=
  bif Decidable.decide (Prod.fst s_286 < t_275) then
    if (0 : Int) ≤ Prod.fst s_286 ∧ Prod.fst s_286 + (↑(0 : Nat) : Int) < (↑(List.length o1_278) : Int) then
      if (0 : Nat) + Int.toNat (Prod.fst s_286) < List.length o1_278 then
        bif Decidable.decide (List.getD o1_278 ((0 : Nat) + Int.toNat (Prod.fst s_286)) [] = [(46 : UInt8)]) then
          some (Sum.inl (IntKind.wrap IntKind.i64 (Prod.fst s_286 + (1 : Int)), Prod.snd s_286))
        else
          bif Decidable.decide (List.getD o1_278 ((0 : Nat) + Int.toNat (Prod.fst s_286)) [] = [(46 : UInt8), (46 : UInt8)]) then
            if (0 : Int) ≤ (0 : Int) ∧ (0 : Int) ≤ IntKind.wrap IntKind.i64 ((if (1 : Int) > (↑(List.length (Prod.snd s_286)) : Int) - (↑(0 : Nat) : Int) then (1 : Int) else (↑(List.length (Prod.snd s_286)) : Int) - (↑(0 : Nat) : Int)) - (1 : Int)) ∧ (↑(0 : Nat) : Int) + IntKind.wrap IntKind.i64 ((if (1 : Int) > (↑(List.length (Prod.snd s_286)) : Int) - (↑(0 : Nat) : Int) then (1 : Int) else (↑(List.length (Prod.snd s_286)) : Int) - (↑(0 : Nat) : Int)) - (1 : Int)) ≤ (↑(List.length (Prod.snd s_286)) : Int) then
              some (Sum.inl (IntKind.wrap IntKind.i64 (Prod.fst s_286 + (1 : Int)), List.take ((0 : Nat) + Int.toNat (IntKind.wrap IntKind.i64 ((if (1 : Int) > (↑(List.length (Prod.snd s_286)) : Int) - (↑(0 : Nat) : Int) then (1 : Int) else (↑(List.length (Prod.snd s_286)) : Int) - (↑(0 : Nat) : Int)) - (1 : Int)))) (Prod.snd s_286)))
            else none
          else
            if (List.length (Prod.snd s_286) + List.length ((fun (x : List (Ty.T Ty.str)) => x) [List.getD o1_278 ((0 : Nat) + Int.toNat (Prod.fst s_286)) []])) * (16 : Nat) ≤ (17592186044416 : Nat) then
              some (Sum.inl (IntKind.wrap IntKind.i64 (Prod.fst s_286 + (1 : Int)), Prod.snd s_286 ++ [List.getD o1_278 ((0 : Nat) + Int.toNat (Prod.fst s_286)) []]))
            else none
      else none
    else none
  else
    some (Sum.inr (Prod.snd s_286))

noncomputable def path_Clean (s_232 : List UInt8) : Option (List UInt8 × Int) :=
  (path_plain (s_232)).bind fun a_245 =>
    bif !a_245 then
      some ([], (1 : Int))
    else
      (path_Parts (s_232)).bind fun a_271 =>
        (iter (path_Clean_b0 ((↑(List.length a_271) : Int) - (↑(0 : Nat) : Int)) (a_271)) ((0 : Int), [])).bind (fun t_280 =>
          (strings_Join (List.drop (0 : Nat) t_280) ([(47 : UInt8)])).bind fun a_281 =>
            if List.length ((fun (x : List UInt8) => x) [(47 : UInt8)]) + List.length a_281 ≤ (140737488355328 : Nat) then
              bif Decidable.decide ((200 : Int) < (↑(List.length ([(47 : UInt8)] ++ a_281)) : Int)) then
                some ([], (8 : Int))
              else
                some ([(47 : UInt8)] ++ a_281, (0 : Int))
            else none)

def path_Right_res (r : Bool) : AV := (fun (r_290 : Bool) => AV.bool r_290) r

def path_Right_out (r : Bool) : List AO := (fun (r_290 : Bool) => []) r

noncomputable def path_Right (s_231 : List UInt8) : Option (Bool) :=
  (path_Clean (s_231)).bind fun a_288 =>
    bif Decidable.decide (Prod.snd a_288 = (0 : Int)) then
      some (Decidable.decide (Prod.fst a_288 = s_231))
    else
      some (Bool.false)

def bits_Right_res (r : Bool) : AV := (fun (r_296 : Bool) => AV.bool r_296) r

def bits_Right_out (r : Bool) : List AO := (fun (r_296 : Bool) => []) r

noncomputable def bits_Right (m_292 : Int) (m_293 : Int) (m_294 : Int) : Option (Bool) :=
  bif Decidable.decide ((0 : Int) ≤ m_292) then
    bif Decidable.decide (m_292 ≤ (4095 : Int)) then
      bif Decidable.decide ((0 : Int) ≤ m_293) then
        bif Decidable.decide (m_293 ≤ (67108863 : Int)) then
          bif Decidable.decide ((0 : Int) ≤ m_294) then
            some (Decidable.decide (m_294 ≤ (67108863 : Int)))
          else
            some (Bool.false)
        else
          some (Bool.false)
      else
        some (Bool.false)
    else
      some (Bool.false)
  else
    some (Bool.false)

def overs_Right_res (r : Bool) : AV := (fun (r_299 : Bool) => AV.bool r_299) r

def overs_Right_out (r : Bool) : List AO := (fun (r_299 : Bool) => []) r

noncomputable def overs_Right (x_227 : List UInt8) (x_228 : Int) (x_229 : Int) (x_230 : Int) : Option (Bool) :=
  (path_Right (x_227)).bind fun a_291 =>
    bif a_291 then
      (bits_Right (x_228) (x_229) (x_230)).bind fun a_297 =>
        some (a_297)
    else
      some (Bool.false)

def overs_Check_res (r : Int) : AV := (fun (r_305 : Int) => AV.int IntKind.i64 r_305) r

def overs_Check_out (r : Int) : List AO := (fun (r_305 : Int) => []) r

noncomputable def overs_Check_b0 (l_223 : List (List UInt8 × Int × Int × Int)) (t_224 : List (List UInt8 × Int × Int × Int)) (t_225 : Int) (s_306 : Int) : Option ((Int) ⊕ (Unit ⊕ Unit)) :=
  bif Decidable.decide (s_306 < t_225) then
    if (0 : Int) ≤ s_306 ∧ s_306 < (↑(List.length t_224) : Int) then
      (overs_Right (Prod.fst (List.getD t_224 (Int.toNat s_306) ([], (0 : Int), (0 : Int), (0 : Int)))) (Prod.fst (Prod.snd (List.getD t_224 (Int.toNat s_306) ([], (0 : Int), (0 : Int), (0 : Int))))) (Prod.fst (Prod.snd (Prod.snd (List.getD t_224 (Int.toNat s_306) ([], (0 : Int), (0 : Int), (0 : Int)))))) (Prod.snd (Prod.snd (Prod.snd (List.getD t_224 (Int.toNat s_306) ([], (0 : Int), (0 : Int), (0 : Int))))))).bind fun a_300 =>
        bif !a_300 then
          some (Sum.inr (Sum.inl ()))
        else
          bif Decidable.decide ((0 : Int) < s_306) then
            if (0 : Int) ≤ IntKind.wrap IntKind.i64 (s_306 - (1 : Int)) ∧ IntKind.wrap IntKind.i64 (s_306 - (1 : Int)) < (↑(List.length l_223) : Int) then
              bif !Go.Op.bytesLess (Prod.fst (List.getD l_223 (Int.toNat (IntKind.wrap IntKind.i64 (s_306 - (1 : Int)))) ([], (0 : Int), (0 : Int), (0 : Int)))) (Prod.fst (List.getD t_224 (Int.toNat s_306) ([], (0 : Int), (0 : Int), (0 : Int)))) then
                some (Sum.inr (Sum.inl ()))
              else
                some (Sum.inl (IntKind.wrap IntKind.i64 (s_306 + (1 : Int))))
            else none
          else
            some (Sum.inl (IntKind.wrap IntKind.i64 (s_306 + (1 : Int))))
    else none
  else
    some (Sum.inr (Sum.inr ()))

noncomputable def overs_Check (l_222 : List (List UInt8 × Int × Int × Int)) : Option (Int) :=
  bif Decidable.decide ((64 : Int) < (↑(List.length l_222) : Int)) then
    some ((22 : Int))
  else
    (iter (overs_Check_b0 (l_222) (l_222) ((↑(List.length l_222) : Int))) ((0 : Int))).bind (Sum.elim (fun t_301 =>
      some ((1 : Int))) (fun t_302 =>
      some ((0 : Int))))

def overs_Parse_res (r : Int × List (List UInt8 × Int × Int × Int)) : AV := (fun (r_312 : Int × List (List UInt8 × Int × Int × Int)) => AV.tup [AV.view (0 : Nat) (0 : Nat) Option.none, AV.int IntKind.i64 (Prod.fst r_312)]) r

def overs_Parse_out (r : Int × List (List UInt8 × Int × Int × Int)) : List AO := (fun (r_312 : Int × List (List UInt8 × Int × Int × Int)) => [AO.row (Ty.prod Ty.str (Ty.prod (Ty.int IntKind.i64) (Ty.prod (Ty.int IntKind.i64) (Ty.int IntKind.i64)))) (Prod.snd r_312)]) r

noncomputable def overs_Parse_b0 (t_209 : Int) (o2_213 : List (List UInt8)) (s_313 : Int × Bool × List (List UInt8 × Int × Int × Int)) : Option ((Int × Bool × List (List UInt8 × Int × Int × Int)) ⊕ (Unit ⊕ Bool × List (List UInt8 × Int × Int × Int))) :=
  bif Decidable.decide (Prod.fst s_313 < t_209) then
    if (0 : Int) ≤ Prod.fst s_313 ∧ Prod.fst s_313 + (↑(0 : Nat) : Int) < (↑(List.length o2_213) : Int) then
      if (0 : Nat) + Int.toNat (Prod.fst s_313) < List.length o2_213 then
        (strings_Split (List.getD o2_213 ((0 : Nat) + Int.toNat (Prod.fst s_313)) []) ([(32 : UInt8)])).bind fun a_214 =>
          bif !Decidable.decide ((↑(List.length a_214) : Int) - (↑(0 : Nat) : Int) = (4 : Int)) then
            some (Sum.inr (Sum.inl ()))
          else
            if (0 : Int) ≤ (3 : Int) ∧ (3 : Int) + (↑(0 : Nat) : Int) < (↑(List.length a_214) : Int) then
              if (3 : Nat) < List.length a_214 then
                if (0 : Int) ≤ (0 : Int) ∧ (0 : Int) + (↑(0 : Nat) : Int) < (↑(List.length a_214) : Int) then
                  if (0 : Nat) < List.length a_214 then
                    (overs_reader__id (List.getD a_214 (0 : Nat) []) (Prod.fst (Prod.snd s_313))).bind fun a_215 =>
                      if (0 : Int) ≤ (1 : Int) ∧ (1 : Int) + (↑(0 : Nat) : Int) < (↑(List.length a_214) : Int) then
                        if (1 : Nat) < List.length a_214 then
                          (overs_reader__id (List.getD a_214 (1 : Nat) []) (Prod.snd a_215)).bind fun a_216 =>
                            if (0 : Int) ≤ (2 : Int) ∧ (2 : Int) + (↑(0 : Nat) : Int) < (↑(List.length a_214) : Int) then
                              if (2 : Nat) < List.length a_214 then
                                (overs_reader__mode (List.getD a_214 (2 : Nat) []) (Prod.snd a_216)).bind fun a_217 =>
                                  if (List.length (Prod.snd (Prod.snd s_313)) + List.length ((fun (x : List (Ty.T (Ty.prod Ty.str (Ty.prod (Ty.int IntKind.i64) (Ty.prod (Ty.int IntKind.i64) (Ty.int IntKind.i64)))))) => x) [(List.getD a_214 (3 : Nat) [], Prod.fst a_217, Prod.fst a_215, Prod.fst a_216)])) * (40 : Nat) ≤ (17592186044416 : Nat) then
                                    some (Sum.inl (IntKind.wrap IntKind.i64 (Prod.fst s_313 + (1 : Int)), Prod.snd a_217, Prod.snd (Prod.snd s_313) ++ [(List.getD a_214 (3 : Nat) [], Prod.fst a_217, Prod.fst a_215, Prod.fst a_216)]))
                                  else none
                              else none
                            else none
                        else none
                      else none
                  else none
                else none
              else none
            else none
      else none
    else none
  else
    some (Sum.inr (Sum.inr (Prod.fst (Prod.snd s_313), Prod.snd (Prod.snd s_313))))

noncomputable def overs_Parse (s_11 : List UInt8) : Option (Int × List (List UInt8 × Int × Int × Int)) :=
  (stanza_Lines (s_11)).bind fun a_101 =>
    bif !Decidable.decide (Prod.fst a_101 = (0 : Int)) then
      some (Prod.fst a_101, [])
    else
      (iter (overs_Parse_b0 ((↑(List.length (Prod.snd a_101)) : Int) - (↑(0 : Nat) : Int)) (Prod.snd a_101)) ((0 : Int), Bool.false, [])).bind (Sum.elim (fun t_218 =>
        some ((2 : Int), [])) (fun t_221 =>
        bif Prod.fst t_221 then
          some ((2 : Int), [])
        else
          (overs_Check (List.drop (0 : Nat) (Prod.snd t_221))).bind fun a_308 =>
            bif !Decidable.decide (a_308 = (0 : Int)) then
              some ((2 : Int), [])
            else
              some ((0 : Int), Prod.snd t_221)))

def bits_Octal_res (r : List UInt8) : AV := (fun (r_336 : List UInt8) => AV.str r_336) r

def bits_Octal_out (r : List UInt8) : List AO := (fun (r_336 : List UInt8) => []) r

noncomputable def bits_Octal_b0 (mode_329 : Int) (s_337 : Int × List Int) : Option ((Int × List Int) ⊕ (List Int)) :=
  bif Decidable.decide (Prod.fst s_337 < (4 : Int)) then
    if (0 : Int) ≤ IntKind.wrap IntKind.i64 ((9 : Int) - IntKind.wrap IntKind.i64 ((3 : Int) * Prod.fst s_337)) then
      if (0 : Int) ≤ Prod.fst s_337 ∧ Prod.fst s_337 < (↑(4 : Nat) : Int) ∧ Prod.fst s_337 < (↑(List.length (Prod.snd s_337)) : Int) then
        if Int.toNat (Prod.fst s_337) < List.length (Prod.snd s_337) then
          some (Sum.inl (IntKind.wrap IntKind.i64 (Prod.fst s_337 + (1 : Int)), List.set (Prod.snd s_337) (Int.toNat (Prod.fst s_337)) (IntKind.wrap IntKind.u8 ((48 : Int) + IntKind.wrap IntKind.u8 (IntKind.wrap IntKind.i64 (↑(BitVec.toNat (BitVec.ofInt (IntKind.bits IntKind.i64) (Int.fdiv mode_329 ((2 : Int) ^ Min.min (Int.toNat (IntKind.wrap IntKind.i64 ((9 : Int) - IntKind.wrap IntKind.i64 ((3 : Int) * Prod.fst s_337)))) (IntKind.bits IntKind.i64))) &&& BitVec.ofInt (IntKind.bits IntKind.i64) (7 : Int))) : Int))))))
        else none
      else none
    else none
  else
    some (Sum.inr (Prod.snd s_337))

noncomputable def bits_Octal (mode_328 : Int) : Option (List UInt8) :=
  (iter (bits_Octal_b0 (mode_328)) ((0 : Int), List.replicate (4 : Nat) (0 : Int))).bind (fun t_333 =>
    if List.length t_333 = (4 : Nat) ∧ (0 : Int) ≤ (0 : Int) ∧ (0 : Int) ≤ (↑(4 : Nat) : Int) ∧ (↑(4 : Nat) : Int) ≤ (↑(4 : Nat) : Int) then
      some (List.map (fun (n : Int) => UInt8.ofNat (Int.toNat n)) (List.drop (0 : Nat) (List.take (4 : Nat) t_333)))
    else none)

def overs_line_res (r : List UInt8) : AV := (fun (r_341 : List UInt8) => AV.str r_341) r

def overs_line_out (r : List UInt8) : List AO := (fun (r_341 : List UInt8) => []) r

noncomputable def overs_line (x_322 : List UInt8) (x_323 : Int) (x_324 : Int) (x_325 : Int) : Option (List UInt8) :=
  (bits_Text (x_324)).bind fun a_326 =>
    if List.length ((fun (x : List UInt8) => x) [(35 : UInt8)]) + List.length a_326 ≤ (140737488355328 : Nat) then
      if List.length ([(35 : UInt8)] ++ a_326) + List.length ((fun (x : List UInt8) => x) [(32 : UInt8), (35 : UInt8)]) ≤ (140737488355328 : Nat) then
        (bits_Text (x_325)).bind fun a_327 =>
          if List.length ([(35 : UInt8)] ++ a_326 ++ [(32 : UInt8), (35 : UInt8)]) + List.length a_327 ≤ (140737488355328 : Nat) then
            if List.length ([(35 : UInt8)] ++ a_326 ++ [(32 : UInt8), (35 : UInt8)] ++ a_327) + List.length ((fun (x : List UInt8) => x) [(32 : UInt8)]) ≤ (140737488355328 : Nat) then
              (bits_Octal (x_323)).bind fun a_339 =>
                if List.length ([(35 : UInt8)] ++ a_326 ++ [(32 : UInt8), (35 : UInt8)] ++ a_327 ++ [(32 : UInt8)]) + List.length a_339 ≤ (140737488355328 : Nat) then
                  if List.length ([(35 : UInt8)] ++ a_326 ++ [(32 : UInt8), (35 : UInt8)] ++ a_327 ++ [(32 : UInt8)] ++ a_339) + List.length ((fun (x : List UInt8) => x) [(32 : UInt8)]) ≤ (140737488355328 : Nat) then
                    if List.length ([(35 : UInt8)] ++ a_326 ++ [(32 : UInt8), (35 : UInt8)] ++ a_327 ++ [(32 : UInt8)] ++ a_339 ++ [(32 : UInt8)]) + List.length x_322 ≤ (140737488355328 : Nat) then
                      if List.length ([(35 : UInt8)] ++ a_326 ++ [(32 : UInt8), (35 : UInt8)] ++ a_327 ++ [(32 : UInt8)] ++ a_339 ++ [(32 : UInt8)] ++ x_322) + List.length ((fun (x : List UInt8) => x) [(10 : UInt8)]) ≤ (140737488355328 : Nat) then
                        some ([(35 : UInt8)] ++ a_326 ++ [(32 : UInt8), (35 : UInt8)] ++ a_327 ++ [(32 : UInt8)] ++ a_339 ++ [(32 : UInt8)] ++ x_322 ++ [(10 : UInt8)])
                      else none
                    else none
                  else none
                else none
            else none
          else none
      else none
    else none

def overs_Print_res (r : List UInt8 × Int) : AV := (fun (r_350 : List UInt8 × Int) => AV.tup [AV.str (Prod.fst r_350), AV.int IntKind.i64 (Prod.snd r_350)]) r

def overs_Print_out (r : List UInt8 × Int) : List AO := (fun (r_350 : List UInt8 × Int) => []) r

noncomputable def overs_Print_b0 (t_318 : List (List UInt8 × Int × Int × Int)) (t_319 : Int) (s_351 : Int × List UInt8) : Option ((Int × List UInt8) ⊕ (List UInt8)) :=
  bif Decidable.decide (Prod.fst s_351 < t_319) then
    if (0 : Int) ≤ Prod.fst s_351 ∧ Prod.fst s_351 < (↑(List.length t_318) : Int) then
      (overs_line (Prod.fst (List.getD t_318 (Int.toNat (Prod.fst s_351)) ([], (0 : Int), (0 : Int), (0 : Int)))) (Prod.fst (Prod.snd (List.getD t_318 (Int.toNat (Prod.fst s_351)) ([], (0 : Int), (0 : Int), (0 : Int))))) (Prod.fst (Prod.snd (Prod.snd (List.getD t_318 (Int.toNat (Prod.fst s_351)) ([], (0 : Int), (0 : Int), (0 : Int)))))) (Prod.snd (Prod.snd (Prod.snd (List.getD t_318 (Int.toNat (Prod.fst s_351)) ([], (0 : Int), (0 : Int), (0 : Int))))))).bind fun a_342 =>
        (x__strings_Builder__WriteString (a_342) (Prod.snd s_351)).bind fun a_343 =>
          some (Sum.inl (IntKind.wrap IntKind.i64 (Prod.fst s_351 + (1 : Int)), Prod.snd a_343))
    else none
  else
    some (Sum.inr (Prod.snd s_351))

noncomputable def overs_Print (l_316 : List (List UInt8 × Int × Int × Int)) : Option (List UInt8 × Int) :=
  (overs_Check (l_316)).bind fun a_317 =>
    bif !Decidable.decide (a_317 = (0 : Int)) then
      some ([], a_317)
    else
      (iter (overs_Print_b0 (l_316) ((↑(List.length l_316) : Int))) ((0 : Int), [])).bind (fun t_345 =>
        (x__strings_Builder__String (t_345)).bind fun a_346 =>
          some (a_346, (0 : Int)))

def overs_Find_1_res (r : Bool × List UInt8) : AV := (fun (r_374 : Bool × List UInt8) => AV.bool (Prod.fst r_374)) r

def overs_Find_1_out (r : Bool × List UInt8) : List AO := (fun (r_374 : Bool × List UInt8) => [AO.box [AV.str (Prod.snd r_374)]]) r

noncomputable def overs_Find_1 (x_367 : List UInt8) (x_368 : Int) (x_369 : Int) (x_370 : Int) (o0_371 : List UInt8) : Option (Bool × List UInt8) :=
  some (Decidable.decide (x_367 = o0_371), o0_371)

def api_Over__res (r : Int × List UInt8) : AV := (fun (r_384 : Int × List UInt8) => AV.int IntKind.i64 (Prod.fst r_384)) r

def api_Over__out (r : Int × List UInt8) : List AO := (fun (r_384 : Int × List UInt8) => [AO.box [AV.str (Prod.snd r_384)]]) r

noncomputable def api_Over__b0 (s_363 : List (List UInt8 × Int × Int × Int)) (t_364 : Int) (s_385 : Int × List UInt8) : Option ((Int × List UInt8) ⊕ (Int × List UInt8 ⊕ List UInt8)) :=
  bif Decidable.decide (Prod.fst s_385 < t_364) then
    if (0 : Int) ≤ Prod.fst s_385 ∧ Prod.fst s_385 < (↑(List.length s_363) : Int) then
      (overs_Find_1 (Prod.fst (List.getD s_363 (Int.toNat (Prod.fst s_385)) ([], (0 : Int), (0 : Int), (0 : Int)))) (Prod.fst (Prod.snd (List.getD s_363 (Int.toNat (Prod.fst s_385)) ([], (0 : Int), (0 : Int), (0 : Int))))) (Prod.fst (Prod.snd (Prod.snd (List.getD s_363 (Int.toNat (Prod.fst s_385)) ([], (0 : Int), (0 : Int), (0 : Int)))))) (Prod.snd (Prod.snd (Prod.snd (List.getD s_363 (Int.toNat (Prod.fst s_385)) ([], (0 : Int), (0 : Int), (0 : Int)))))) (Prod.snd s_385)).bind fun a_375 =>
        bif Prod.fst a_375 then
          some (Sum.inr (Sum.inl (Prod.fst s_385, Prod.snd a_375)))
        else
          some (Sum.inl (IntKind.wrap IntKind.i64 (Prod.fst s_385 + (1 : Int)), Prod.snd a_375))
    else none
  else
    some (Sum.inr (Sum.inr (Prod.snd s_385)))

noncomputable def api_Over_ (s_361 : List (List UInt8 × Int × Int × Int)) (o0_362 : List UInt8) : Option (Int × List UInt8) :=
  (iter (api_Over__b0 (s_361) ((↑(List.length s_361) : Int))) ((0 : Int), o0_362)).bind (Sum.elim (fun t_378 =>
    some (Prod.fst t_378, Prod.snd t_378)) (fun t_380 =>
    some ((-1 : Int), t_380)))

def overs_Find_res (r : Int) : AV := (fun (r_389 : Int) => AV.int IntKind.i64 r_389) r

def overs_Find_out (r : Int) : List AO := (fun (r_389 : Int) => []) r

noncomputable def overs_Find (l_359 : List (List UInt8 × Int × Int × Int)) (p_360 : List UInt8) : Option (Int) :=
  (api_Over_ (l_359) (p_360)).bind fun a_387 =>
    some (Prod.fst a_387)

def overs_Meta_res (r : Int × Int × Int) : AV := (fun (r_394 : Int × Int × Int) => AV.agg [AV.int IntKind.i64 (Prod.fst r_394), AV.int IntKind.i64 (Prod.fst (Prod.snd r_394)), AV.int IntKind.i64 (Prod.snd (Prod.snd r_394))]) r

def overs_Meta_out (r : Int × Int × Int) : List AO := (fun (r_394 : Int × Int × Int) => []) r

noncomputable def overs_Meta (l_354 : List (List UInt8 × Int × Int × Int)) (p_355 : List UInt8) (m_356 : Int) (m_357 : Int) (m_358 : Int) : Option (Int × Int × Int) :=
  (overs_Find (l_354) (p_355)).bind fun a_390 =>
    bif Decidable.decide ((0 : Int) ≤ a_390) then
      if (0 : Int) ≤ a_390 ∧ a_390 < (↑(List.length l_354) : Int) then
        some (Prod.fst (Prod.snd (List.getD l_354 (Int.toNat a_390) ([], (0 : Int), (0 : Int), (0 : Int)))), Prod.fst (Prod.snd (Prod.snd (List.getD l_354 (Int.toNat a_390) ([], (0 : Int), (0 : Int), (0 : Int))))), Prod.snd (Prod.snd (Prod.snd (List.getD l_354 (Int.toNat a_390) ([], (0 : Int), (0 : Int), (0 : Int))))))
      else none
    else
      some (m_356, m_357, m_358)

def cellarerlaw10_awake_res (r : Bool) : AV := (fun (r_398 : Bool) => AV.bool r_398) r

def cellarerlaw10_awake_out (r : Bool) : List AO := (fun (r_398 : Bool) => []) r

noncomputable def cellarerlaw10_awake  : Option (Bool) :=
  (overs_Parse ([(35 : UInt8), (48 : UInt8), (32 : UInt8), (35 : UInt8), (53 : UInt8), (32 : UInt8), (52 : UInt8), (55 : UInt8), (53 : UInt8), (53 : UInt8), (32 : UInt8), (47 : UInt8), (97 : UInt8), (10 : UInt8)])).bind fun a_315 =>
    (overs_Print (List.drop (0 : Nat) (Prod.snd a_315))).bind fun a_353 =>
      bif Decidable.decide (Prod.fst a_315 = (0 : Int)) then
        bif Decidable.decide (Prod.snd a_353 = (0 : Int)) then
          bif Decidable.decide (Prod.fst a_353 = [(35 : UInt8), (48 : UInt8), (32 : UInt8), (35 : UInt8), (53 : UInt8), (32 : UInt8), (52 : UInt8), (55 : UInt8), (53 : UInt8), (53 : UInt8), (32 : UInt8), (47 : UInt8), (97 : UInt8), (10 : UInt8)]) then
            bif Decidable.decide ((↑(List.length (Prod.snd a_315)) : Int) - (↑(0 : Nat) : Int) = (1 : Int)) then
              if (0 : Int) ≤ (0 : Int) ∧ (0 : Int) + (↑(0 : Nat) : Int) < (↑(List.length (Prod.snd a_315)) : Int) then
                if (0 : Nat) < List.length (Prod.snd a_315) then
                  bif Decidable.decide (Prod.fst (Prod.snd (List.getD (Prod.snd a_315) (0 : Nat) ([], (0 : Int), (0 : Int), (0 : Int)))) = (2541 : Int)) && (Decidable.decide (Prod.fst (Prod.snd (Prod.snd (List.getD (Prod.snd a_315) (0 : Nat) ([], (0 : Int), (0 : Int), (0 : Int))))) = (0 : Int)) && Decidable.decide (Prod.snd (Prod.snd (Prod.snd (List.getD (Prod.snd a_315) (0 : Nat) ([], (0 : Int), (0 : Int), (0 : Int))))) = (5 : Int))) then
                    (overs_Meta (List.drop (0 : Nat) (Prod.snd a_315)) ([(47 : UInt8), (97 : UInt8)]) ((0 : Int)) ((0 : Int)) ((0 : Int))).bind fun a_395 =>
                      bif Decidable.decide (Prod.snd (Prod.snd a_395) = (5 : Int)) then
                        if (0 : Int) ≤ (0 : Int) ∧ (0 : Int) + (↑(0 : Nat) : Int) < (↑(List.length (Prod.snd a_315)) : Int) then
                          if (0 : Nat) < List.length (Prod.snd a_315) then
                            (overs_Right (Prod.fst (List.getD (Prod.snd a_315) (0 : Nat) ([], (0 : Int), (0 : Int), (0 : Int)))) (Prod.fst (Prod.snd (List.getD (Prod.snd a_315) (0 : Nat) ([], (0 : Int), (0 : Int), (0 : Int))))) (Prod.fst (Prod.snd (Prod.snd (List.getD (Prod.snd a_315) (0 : Nat) ([], (0 : Int), (0 : Int), (0 : Int)))))) (Prod.snd (Prod.snd (Prod.snd (List.getD (Prod.snd a_315) (0 : Nat) ([], (0 : Int), (0 : Int), (0 : Int))))))).bind fun a_396 =>
                              some (a_396)
                          else none
                        else none
                      else
                        some (Bool.false)
                  else
                    some (Bool.false)
                else none
              else none
            else
              some (Bool.false)
          else
            some (Bool.false)
        else
          some (Bool.false)
      else
        some (Bool.false)

def cellarerref02_Parts_res (r : List (List UInt8)) : AV := (fun (r_433 : List (List UInt8)) => AV.view (0 : Nat) (0 : Nat) Option.none) r

def cellarerref02_Parts_out (r : List (List UInt8)) : List AO := (fun (r_433 : List (List UInt8)) => [AO.row Ty.str r_433]) r

noncomputable def cellarerref02_Parts_b0 (s_424 : List UInt8) (s_434 : List UInt8 × Int × List (List UInt8)) : Option ((List UInt8 × Int × List (List UInt8)) ⊕ (List UInt8 × List (List UInt8))) :=
  bif Decidable.decide (Prod.fst (Prod.snd s_434) < (↑(List.length s_424) : Int)) then
    if (0 : Int) ≤ Prod.fst (Prod.snd s_434) ∧ Prod.fst (Prod.snd s_434) < (↑(List.length s_424) : Int) then
      bif !Decidable.decide ((↑(UInt8.toNat (List.getD s_424 (Int.toNat (Prod.fst (Prod.snd s_434))) (0 : UInt8))) : Int) = (47 : Int)) then
        if (0 : Int) ≤ Prod.fst (Prod.snd s_434) ∧ Prod.fst (Prod.snd s_434) ≤ IntKind.wrap IntKind.i64 (Prod.fst (Prod.snd s_434) + (1 : Int)) ∧ IntKind.wrap IntKind.i64 (Prod.fst (Prod.snd s_434) + (1 : Int)) ≤ (↑(List.length s_424) : Int) then
          if List.length (Prod.fst s_434) + List.length (List.drop (Int.toNat (Prod.fst (Prod.snd s_434))) (List.take (Int.toNat (IntKind.wrap IntKind.i64 (Prod.fst (Prod.snd s_434) + (1 : Int)))) s_424)) ≤ (140737488355328 : Nat) then
            some (Sum.inl (Prod.fst s_434 ++ List.drop (Int.toNat (Prod.fst (Prod.snd s_434))) (List.take (Int.toNat (IntKind.wrap IntKind.i64 (Prod.fst (Prod.snd s_434) + (1 : Int)))) s_424), IntKind.wrap IntKind.i64 (Prod.fst (Prod.snd s_434) + (1 : Int)), Prod.snd (Prod.snd s_434)))
          else none
        else none
      else
        bif !Decidable.decide (Prod.fst s_434 = []) then
          if (List.length (Prod.snd (Prod.snd s_434)) + List.length ((fun (x : List (Ty.T Ty.str)) => x) [Prod.fst s_434])) * (16 : Nat) ≤ (17592186044416 : Nat) then
            some (Sum.inl ([], IntKind.wrap IntKind.i64 (Prod.fst (Prod.snd s_434) + (1 : Int)), Prod.snd (Prod.snd s_434) ++ [Prod.fst s_434]))
          else none
        else
          some (Sum.inl ([], IntKind.wrap IntKind.i64 (Prod.fst (Prod.snd s_434) + (1 : Int)), Prod.snd (Prod.snd s_434)))
    else none
  else
    some (Sum.inr (Prod.fst s_434, Prod.snd (Prod.snd s_434)))

noncomputable def cellarerref02_Parts (s_420 : List UInt8) : Option (List (List UInt8)) :=
  (iter (cellarerref02_Parts_b0 (s_420)) ([], (0 : Int), [])).bind (fun t_430 =>
    bif !Decidable.decide (Prod.fst t_430 = []) then
      if (List.length (Prod.snd t_430) + List.length ((fun (x : List (Ty.T Ty.str)) => x) [Prod.fst t_430])) * (16 : Nat) ≤ (17592186044416 : Nat) then
        some (Prod.snd t_430 ++ [Prod.fst t_430])
      else none
    else
      some (Prod.snd t_430))

def cellarerref02_Joined_res (r : List UInt8) : AV := (fun (r_452 : List UInt8) => AV.str r_452) r

def cellarerref02_Joined_out (r : List UInt8) : List AO := (fun (r_452 : List UInt8) => []) r

noncomputable def cellarerref02_Joined_b0 (l_445 : List (List UInt8)) (s_453 : List UInt8 × Int) : Option ((List UInt8 × Int) ⊕ (List UInt8)) :=
  bif Decidable.decide (Prod.snd s_453 < (↑(List.length l_445) : Int)) then
    if List.length (Prod.fst s_453) + List.length ((fun (x : List UInt8) => x) [(47 : UInt8)]) ≤ (140737488355328 : Nat) then
      if (0 : Int) ≤ Prod.snd s_453 ∧ Prod.snd s_453 < (↑(List.length l_445) : Int) then
        if List.length (Prod.fst s_453 ++ [(47 : UInt8)]) + List.length (List.getD l_445 (Int.toNat (Prod.snd s_453)) []) ≤ (140737488355328 : Nat) then
          some (Sum.inl (Prod.fst s_453 ++ [(47 : UInt8)] ++ List.getD l_445 (Int.toNat (Prod.snd s_453)) [], IntKind.wrap IntKind.i64 (Prod.snd s_453 + (1 : Int))))
        else none
      else none
    else none
  else
    some (Sum.inr (Prod.fst s_453))

noncomputable def cellarerref02_Joined (l_444 : List (List UInt8)) : Option (List UInt8) :=
  bif Decidable.decide ((↑(List.length l_444) : Int) = (0 : Int)) then
    some ([(47 : UInt8)])
  else
    (iter (cellarerref02_Joined_b0 (l_444)) ([], (0 : Int))).bind (fun t_449 =>
      some (t_449))

def cellarerref02_Clean_res (r : List UInt8 × Int) : AV := (fun (r_461 : List UInt8 × Int) => AV.tup [AV.str (Prod.fst r_461), AV.int IntKind.i64 (Prod.snd r_461)]) r

def cellarerref02_Clean_out (r : List UInt8 × Int) : List AO := (fun (r_461 : List UInt8 × Int) => []) r

noncomputable def cellarerref02_Clean_b0 (s_416 : List UInt8) (s_462 : Int) : Option ((Int) ⊕ (Unit ⊕ Unit)) :=
  bif Decidable.decide (s_462 < (↑(List.length s_416) : Int)) then
    if (0 : Int) ≤ s_462 ∧ s_462 < (↑(List.length s_416) : Int) then
      bif Decidable.decide ((↑(UInt8.toNat (List.getD s_416 (Int.toNat s_462) (0 : UInt8))) : Int) < (33 : Int)) then
        some (Sum.inr (Sum.inl ()))
      else
        if (0 : Int) ≤ s_462 ∧ s_462 < (↑(List.length s_416) : Int) then
          bif Decidable.decide ((126 : Int) < (↑(UInt8.toNat (List.getD s_416 (Int.toNat s_462) (0 : UInt8))) : Int)) then
            some (Sum.inr (Sum.inl ()))
          else
            some (Sum.inl (IntKind.wrap IntKind.i64 (s_462 + (1 : Int))))
        else none
    else none
  else
    some (Sum.inr (Sum.inr ()))

noncomputable def cellarerref02_Clean_b1 (o0_440 : List (List UInt8)) (s_463 : Int × List (List UInt8)) : Option ((Int × List (List UInt8)) ⊕ (List (List UInt8))) :=
  bif Decidable.decide (Prod.fst s_463 < (↑(List.length o0_440) : Int) - (↑(0 : Nat) : Int)) then
    if (0 : Int) ≤ Prod.fst s_463 ∧ Prod.fst s_463 + (↑(0 : Nat) : Int) < (↑(List.length o0_440) : Int) then
      if (0 : Nat) + Int.toNat (Prod.fst s_463) < List.length o0_440 then
        bif Decidable.decide (List.getD o0_440 ((0 : Nat) + Int.toNat (Prod.fst s_463)) [] = [(46 : UInt8), (46 : UInt8)]) then
          bif Decidable.decide ((0 : Int) < (↑(List.length (Prod.snd s_463)) : Int) - (↑(0 : Nat) : Int)) then
            if (0 : Int) ≤ (0 : Int) ∧ (0 : Int) ≤ IntKind.wrap IntKind.i64 ((↑(List.length (Prod.snd s_463)) : Int) - (↑(0 : Nat) : Int) - (1 : Int)) ∧ (↑(0 : Nat) : Int) + IntKind.wrap IntKind.i64 ((↑(List.length (Prod.snd s_463)) : Int) - (↑(0 : Nat) : Int) - (1 : Int)) ≤ (↑(List.length (Prod.snd s_463)) : Int) then
              some (Sum.inl (IntKind.wrap IntKind.i64 (Prod.fst s_463 + (1 : Int)), List.take ((0 : Nat) + Int.toNat (IntKind.wrap IntKind.i64 ((↑(List.length (Prod.snd s_463)) : Int) - (↑(0 : Nat) : Int) - (1 : Int)))) (Prod.snd s_463)))
            else none
          else
            some (Sum.inl (IntKind.wrap IntKind.i64 (Prod.fst s_463 + (1 : Int)), Prod.snd s_463))
        else
          if (0 : Int) ≤ Prod.fst s_463 ∧ Prod.fst s_463 + (↑(0 : Nat) : Int) < (↑(List.length o0_440) : Int) then
            if (0 : Nat) + Int.toNat (Prod.fst s_463) < List.length o0_440 then
              bif !Decidable.decide (List.getD o0_440 ((0 : Nat) + Int.toNat (Prod.fst s_463)) [] = [(46 : UInt8)]) then
                if (0 : Int) ≤ Prod.fst s_463 ∧ Prod.fst s_463 + (↑(0 : Nat) : Int) < (↑(List.length o0_440) : Int) then
                  if (0 : Nat) + Int.toNat (Prod.fst s_463) < List.length o0_440 then
                    if (List.length (Prod.snd s_463) + List.length ((fun (x : List (Ty.T Ty.str)) => x) [List.getD o0_440 ((0 : Nat) + Int.toNat (Prod.fst s_463)) []])) * (16 : Nat) ≤ (17592186044416 : Nat) then
                      some (Sum.inl (IntKind.wrap IntKind.i64 (Prod.fst s_463 + (1 : Int)), Prod.snd s_463 ++ [List.getD o0_440 ((0 : Nat) + Int.toNat (Prod.fst s_463)) []]))
                    else none
                  else none
                else none
              else
                some (Sum.inl (IntKind.wrap IntKind.i64 (Prod.fst s_463 + (1 : Int)), Prod.snd s_463))
            else none
          else none
      else none
    else none
  else
    some (Sum.inr (Prod.snd s_463))

noncomputable def cellarerref02_Clean (s_413 : List UInt8) : Option (List UInt8 × Int) :=
  Option.bind (α := Unit ⊕ Unit) (
    bif Decidable.decide ((↑(List.length s_413) : Int) = (0 : Int)) then
      some (Sum.inl ())
    else
      if (0 : Int) ≤ (0 : Int) ∧ (0 : Int) < (↑(List.length s_413) : Int) then
        bif !Decidable.decide ((↑(UInt8.toNat (List.getD s_413 (Int.toNat (0 : Int)) (0 : UInt8))) : Int) = (47 : Int)) then
          some (Sum.inl ())
        else
          some (Sum.inr ())
      else none) (Sum.elim (fun t_414 =>
    some ([], (1 : Int))) (fun t_415 =>
    (iter (cellarerref02_Clean_b0 (s_413)) ((0 : Int))).bind (Sum.elim (fun t_418 =>
      some ([], (1 : Int))) (fun t_419 =>
      (cellarerref02_Parts (s_413)).bind fun a_436 =>
        (iter (cellarerref02_Clean_b1 (a_436)) ((0 : Int), [])).bind (fun t_443 =>
          (cellarerref02_Joined (List.drop (0 : Nat) t_443)).bind fun a_455 =>
            bif Decidable.decide ((200 : Int) < (↑(List.length a_455) : Int)) then
              some ([], (8 : Int))
            else
              some (a_455, (0 : Int)))))))

def cellarerref02_Right_res (r : Bool) : AV := (fun (r_468 : Bool) => AV.bool r_468) r

def cellarerref02_Right_out (r : Bool) : List AO := (fun (r_468 : Bool) => []) r

noncomputable def cellarerref02_Right (s_412 : List UInt8) : Option (Bool) :=
  (cellarerref02_Clean (s_412)).bind fun a_466 =>
    bif Decidable.decide (Prod.snd a_466 = (0 : Int)) then
      some (Decidable.decide (Prod.fst a_466 = s_412))
    else
      some (Bool.false)

def cellarerref01_Right_res (r : Bool) : AV := (fun (r_474 : Bool) => AV.bool r_474) r

def cellarerref01_Right_out (r : Bool) : List AO := (fun (r_474 : Bool) => []) r

noncomputable def cellarerref01_Right (m_470 : Int) (m_471 : Int) (m_472 : Int) : Option (Bool) :=
  bif Decidable.decide ((0 : Int) ≤ m_470) then
    bif Decidable.decide (m_470 ≤ (4095 : Int)) then
      bif Decidable.decide ((0 : Int) ≤ m_471) then
        bif Decidable.decide (m_471 ≤ (67108863 : Int)) then
          bif Decidable.decide ((0 : Int) ≤ m_472) then
            some (Decidable.decide (m_472 ≤ (67108863 : Int)))
          else
            some (Bool.false)
        else
          some (Bool.false)
      else
        some (Bool.false)
    else
      some (Bool.false)
  else
    some (Bool.false)

def cellarerref10_Right_res (r : Bool) : AV := (fun (r_477 : Bool) => AV.bool r_477) r

def cellarerref10_Right_out (r : Bool) : List AO := (fun (r_477 : Bool) => []) r

noncomputable def cellarerref10_Right (x_408 : List UInt8) (x_409 : Int) (x_410 : Int) (x_411 : Int) : Option (Bool) :=
  (cellarerref02_Right (x_408)).bind fun a_469 =>
    bif a_469 then
      (cellarerref01_Right (x_409) (x_410) (x_411)).bind fun a_475 =>
        some (a_475)
    else
      some (Bool.false)

def cellarerref10_Check_res (r : Int) : AV := (fun (r_483 : Int) => AV.int IntKind.i64 r_483) r

def cellarerref10_Check_out (r : Int) : List AO := (fun (r_483 : Int) => []) r

noncomputable def cellarerref10_Check_b0 (l_406 : List (List UInt8 × Int × Int × Int)) (s_484 : Int) : Option ((Int) ⊕ (Unit ⊕ Unit)) :=
  bif Decidable.decide (s_484 < (↑(List.length l_406) : Int)) then
    if (0 : Int) ≤ s_484 ∧ s_484 < (↑(List.length l_406) : Int) then
      (cellarerref10_Right (Prod.fst (List.getD l_406 (Int.toNat s_484) ([], (0 : Int), (0 : Int), (0 : Int)))) (Prod.fst (Prod.snd (List.getD l_406 (Int.toNat s_484) ([], (0 : Int), (0 : Int), (0 : Int))))) (Prod.fst (Prod.snd (Prod.snd (List.getD l_406 (Int.toNat s_484) ([], (0 : Int), (0 : Int), (0 : Int)))))) (Prod.snd (Prod.snd (Prod.snd (List.getD l_406 (Int.toNat s_484) ([], (0 : Int), (0 : Int), (0 : Int))))))).bind fun a_478 =>
        bif !a_478 then
          some (Sum.inr (Sum.inl ()))
        else
          bif Decidable.decide ((0 : Int) < s_484) then
            if (0 : Int) ≤ IntKind.wrap IntKind.i64 (s_484 - (1 : Int)) ∧ IntKind.wrap IntKind.i64 (s_484 - (1 : Int)) < (↑(List.length l_406) : Int) then
              if (0 : Int) ≤ s_484 ∧ s_484 < (↑(List.length l_406) : Int) then
                bif !Go.Op.bytesLess (Prod.fst (List.getD l_406 (Int.toNat (IntKind.wrap IntKind.i64 (s_484 - (1 : Int)))) ([], (0 : Int), (0 : Int), (0 : Int)))) (Prod.fst (List.getD l_406 (Int.toNat s_484) ([], (0 : Int), (0 : Int), (0 : Int)))) then
                  some (Sum.inr (Sum.inl ()))
                else
                  some (Sum.inl (IntKind.wrap IntKind.i64 (s_484 + (1 : Int))))
              else none
            else none
          else
            some (Sum.inl (IntKind.wrap IntKind.i64 (s_484 + (1 : Int))))
    else none
  else
    some (Sum.inr (Sum.inr ()))

noncomputable def cellarerref10_Check (l_405 : List (List UInt8 × Int × Int × Int)) : Option (Int) :=
  bif Decidable.decide ((64 : Int) < (↑(List.length l_405) : Int)) then
    some ((22 : Int))
  else
    (iter (cellarerref10_Check_b0 (l_405)) ((0 : Int))).bind (Sum.elim (fun t_479 =>
      some ((1 : Int))) (fun t_480 =>
      some ((0 : Int))))

def cellarerref01_Text_res (r : List UInt8) : AV := (fun (r_501 : List UInt8) => AV.str r_501) r

def cellarerref01_Text_out (r : List UInt8) : List AO := (fun (r_501 : List UInt8) => []) r

noncomputable def cellarerref01_Text_b0  (s_502 : Int × List UInt8) : Option ((Int × List UInt8) ⊕ (List UInt8)) :=
  bif Decidable.decide ((0 : Int) < Prod.fst s_502) then
    if List.length (enc (IntKind.wrap IntKind.i32 (IntKind.wrap IntKind.u64 ((48 : Int) + Int.tmod (Prod.fst s_502) (10 : Int))))) + List.length (Prod.snd s_502) ≤ (140737488355328 : Nat) then
      some (Sum.inl (IntKind.wrap IntKind.u64 (Int.tdiv (Prod.fst s_502) (10 : Int)), enc (IntKind.wrap IntKind.i32 (IntKind.wrap IntKind.u64 ((48 : Int) + Int.tmod (Prod.fst s_502) (10 : Int)))) ++ Prod.snd s_502))
    else none
  else
    some (Sum.inr (Prod.snd s_502))

noncomputable def cellarerref01_Text (n_490 : Int) : Option (List UInt8) :=
  Option.bind (α := Int) (
    bif Decidable.decide (n_490 < (0 : Int)) then
      some (IntKind.wrap IntKind.u64 ((0 : Int) - IntKind.wrap IntKind.u64 n_490))
    else
      some (IntKind.wrap IntKind.u64 n_490)) (fun t_492 =>
    (iter (cellarerref01_Text_b0 ) (IntKind.wrap IntKind.u64 (Int.tdiv t_492 (10 : Int)), enc (IntKind.wrap IntKind.i32 (IntKind.wrap IntKind.u64 ((48 : Int) + Int.tmod t_492 (10 : Int)))))).bind (fun t_497 =>
      bif Decidable.decide (n_490 < (0 : Int)) then
        if List.length ((fun (x : List UInt8) => x) [(45 : UInt8)]) + List.length t_497 ≤ (140737488355328 : Nat) then
          some ([(45 : UInt8)] ++ t_497)
        else none
      else
        some (t_497)))

def cellarerref01_Bit_res (r : Bool) : AV := (fun (r_517 : Bool) => AV.bool r_517) r

def cellarerref01_Bit_out (r : Bool) : List AO := (fun (r_517 : Bool) => []) r

noncomputable def cellarerref01_Bit (n_514 : Int) (i_515 : Int) : Option (Bool) :=
  if (0 : Int) ≤ IntKind.wrap IntKind.u64 i_515 then
    some (Decidable.decide (Int.tmod (Int.fdiv (IntKind.wrap IntKind.u64 n_514) ((2 : Int) ^ Min.min (Int.toNat (IntKind.wrap IntKind.u64 i_515)) (IntKind.bits IntKind.u64))) (2 : Int) = (1 : Int)))
  else none

def cellarerref01_Low_res (r : Int) : AV := (fun (r_523 : Int) => AV.int IntKind.i64 r_523) r

def cellarerref01_Low_out (r : Int) : List AO := (fun (r_523 : Int) => []) r

noncomputable def cellarerref01_Low_b0 (n_509 : Int) (bits_510 : Int) (s_524 : Int × Int × Int) : Option ((Int × Int × Int) ⊕ (Int)) :=
  bif Decidable.decide (Prod.snd (Prod.snd s_524) < bits_510) then
    (cellarerref01_Bit (n_509) (Prod.snd (Prod.snd s_524))).bind fun a_518 =>
      bif a_518 then
        some (Sum.inl (IntKind.wrap IntKind.i64 (Prod.fst s_524 + Prod.fst (Prod.snd s_524)), IntKind.wrap IntKind.i64 ((2 : Int) * Prod.fst (Prod.snd s_524)), IntKind.wrap IntKind.i64 (Prod.snd (Prod.snd s_524) + (1 : Int))))
      else
        some (Sum.inl (Prod.fst s_524, IntKind.wrap IntKind.i64 ((2 : Int) * Prod.fst (Prod.snd s_524)), IntKind.wrap IntKind.i64 (Prod.snd (Prod.snd s_524) + (1 : Int))))
  else
    some (Sum.inr (Prod.fst s_524))

noncomputable def cellarerref01_Low (n_507 : Int) (bits_508 : Int) : Option (Int) :=
  (iter (cellarerref01_Low_b0 (n_507) (bits_508)) ((0 : Int), (1 : Int), (0 : Int))).bind (fun t_520 =>
    some (t_520))

def cellarerref01_Octal_res (r : List UInt8) : AV := (fun (r_534 : List UInt8) => AV.str r_534) r

def cellarerref01_Octal_out (r : List UInt8) : List AO := (fun (r_534 : List UInt8) => []) r

noncomputable def cellarerref01_Octal_b0  (s_535 : Int × List UInt8 × Int) : Option ((Int × List UInt8 × Int) ⊕ (List UInt8)) :=
  bif Decidable.decide (Prod.snd (Prod.snd s_535) < (4 : Int)) then
    if List.length (enc (IntKind.wrap IntKind.i32 (IntKind.wrap IntKind.i64 ((48 : Int) + Int.tmod (Prod.fst s_535) (8 : Int))))) + List.length (Prod.fst (Prod.snd s_535)) ≤ (140737488355328 : Nat) then
      some (Sum.inl (IntKind.wrap IntKind.i64 (Int.tdiv (Prod.fst s_535) (8 : Int)), enc (IntKind.wrap IntKind.i32 (IntKind.wrap IntKind.i64 ((48 : Int) + Int.tmod (Prod.fst s_535) (8 : Int)))) ++ Prod.fst (Prod.snd s_535), IntKind.wrap IntKind.i64 (Prod.snd (Prod.snd s_535) + (1 : Int))))
    else none
  else
    some (Sum.inr (Prod.fst (Prod.snd s_535)))

noncomputable def cellarerref01_Octal (mode_506 : Int) : Option (List UInt8) :=
  (cellarerref01_Low (mode_506) ((12 : Int))).bind fun a_526 =>
    (iter (cellarerref01_Octal_b0 ) (a_526, [], (0 : Int))).bind (fun t_531 =>
      some (t_531))

def cellarerref10_Print_res (r : List UInt8 × Int) : AV := (fun (r_543 : List UInt8 × Int) => AV.tup [AV.str (Prod.fst r_543), AV.int IntKind.i64 (Prod.snd r_543)]) r

def cellarerref10_Print_out (r : List UInt8 × Int) : List AO := (fun (r_543 : List UInt8 × Int) => []) r

noncomputable def cellarerref10_Print_b0 (l_487 : List (List UInt8 × Int × Int × Int)) (s_544 : List UInt8 × Int) : Option ((List UInt8 × Int) ⊕ (List UInt8)) :=
  bif Decidable.decide (Prod.snd s_544 < (↑(List.length l_487) : Int)) then
    if (0 : Int) ≤ Prod.snd s_544 ∧ Prod.snd s_544 < (↑(List.length l_487) : Int) then
      if List.length (Prod.fst s_544) + List.length ((fun (x : List UInt8) => x) [(35 : UInt8)]) ≤ (140737488355328 : Nat) then
        (cellarerref01_Text (Prod.fst (Prod.snd (Prod.snd (List.getD l_487 (Int.toNat (Prod.snd s_544)) ([], (0 : Int), (0 : Int), (0 : Int))))))).bind fun a_504 =>
          if List.length (Prod.fst s_544 ++ [(35 : UInt8)]) + List.length a_504 ≤ (140737488355328 : Nat) then
            if List.length (Prod.fst s_544 ++ [(35 : UInt8)] ++ a_504) + List.length ((fun (x : List UInt8) => x) [(32 : UInt8), (35 : UInt8)]) ≤ (140737488355328 : Nat) then
              (cellarerref01_Text (Prod.snd (Prod.snd (Prod.snd (List.getD l_487 (Int.toNat (Prod.snd s_544)) ([], (0 : Int), (0 : Int), (0 : Int))))))).bind fun a_505 =>
                if List.length (Prod.fst s_544 ++ [(35 : UInt8)] ++ a_504 ++ [(32 : UInt8), (35 : UInt8)]) + List.length a_505 ≤ (140737488355328 : Nat) then
                  if List.length (Prod.fst s_544 ++ [(35 : UInt8)] ++ a_504 ++ [(32 : UInt8), (35 : UInt8)] ++ a_505) + List.length ((fun (x : List UInt8) => x) [(32 : UInt8)]) ≤ (140737488355328 : Nat) then
                    (cellarerref01_Octal (Prod.fst (Prod.snd (List.getD l_487 (Int.toNat (Prod.snd s_544)) ([], (0 : Int), (0 : Int), (0 : Int)))))).bind fun a_537 =>
                      if List.length (Prod.fst s_544 ++ [(35 : UInt8)] ++ a_504 ++ [(32 : UInt8), (35 : UInt8)] ++ a_505 ++ [(32 : UInt8)]) + List.length a_537 ≤ (140737488355328 : Nat) then
                        if List.length (Prod.fst s_544 ++ [(35 : UInt8)] ++ a_504 ++ [(32 : UInt8), (35 : UInt8)] ++ a_505 ++ [(32 : UInt8)] ++ a_537) + List.length ((fun (x : List UInt8) => x) [(32 : UInt8)]) ≤ (140737488355328 : Nat) then
                          if (0 : Int) ≤ Prod.snd s_544 ∧ Prod.snd s_544 < (↑(List.length l_487) : Int) then
                            if List.length (Prod.fst s_544 ++ [(35 : UInt8)] ++ a_504 ++ [(32 : UInt8), (35 : UInt8)] ++ a_505 ++ [(32 : UInt8)] ++ a_537 ++ [(32 : UInt8)]) + List.length (Prod.fst (List.getD l_487 (Int.toNat (Prod.snd s_544)) ([], (0 : Int), (0 : Int), (0 : Int)))) ≤ (140737488355328 : Nat) then
                              if List.length (Prod.fst s_544 ++ [(35 : UInt8)] ++ a_504 ++ [(32 : UInt8), (35 : UInt8)] ++ a_505 ++ [(32 : UInt8)] ++ a_537 ++ [(32 : UInt8)] ++ Prod.fst (List.getD l_487 (Int.toNat (Prod.snd s_544)) ([], (0 : Int), (0 : Int), (0 : Int)))) + List.length ((fun (x : List UInt8) => x) [(10 : UInt8)]) ≤ (140737488355328 : Nat) then
                                some (Sum.inl (Prod.fst s_544 ++ [(35 : UInt8)] ++ a_504 ++ [(32 : UInt8), (35 : UInt8)] ++ a_505 ++ [(32 : UInt8)] ++ a_537 ++ [(32 : UInt8)] ++ Prod.fst (List.getD l_487 (Int.toNat (Prod.snd s_544)) ([], (0 : Int), (0 : Int), (0 : Int))) ++ [(10 : UInt8)], IntKind.wrap IntKind.i64 (Prod.snd s_544 + (1 : Int))))
                              else none
                            else none
                          else none
                        else none
                      else none
                  else none
                else none
            else none
          else none
      else none
    else none
  else
    some (Sum.inr (Prod.fst s_544))

noncomputable def cellarerref10_Print (l_404 : List (List UInt8 × Int × Int × Int)) : Option (List UInt8 × Int) :=
  (cellarerref10_Check (l_404)).bind fun a_486 =>
    bif !Decidable.decide (a_486 = (0 : Int)) then
      some ([], a_486)
    else
      (iter (cellarerref10_Print_b0 (l_404)) ([], (0 : Int))).bind (fun t_539 =>
        some (t_539, (0 : Int)))

def cellarerref10_Same_res (r : Bool) : AV := (fun (r_562 : Bool) => AV.bool r_562) r

def cellarerref10_Same_out (r : Bool) : List AO := (fun (r_562 : Bool) => []) r

noncomputable def cellarerref10_Same_b0 (a_555 : List (List UInt8 × Int × Int × Int)) (b_556 : List (List UInt8 × Int × Int × Int)) (s_563 : Int) : Option ((Int) ⊕ (Unit ⊕ Unit)) :=
  bif Decidable.decide (s_563 < (↑(List.length a_555) : Int)) then
    if (0 : Int) ≤ s_563 ∧ s_563 < (↑(List.length a_555) : Int) then
      if (0 : Int) ≤ s_563 ∧ s_563 < (↑(List.length b_556) : Int) then
        bif !(Decidable.decide (Prod.fst (List.getD a_555 (Int.toNat s_563) ([], (0 : Int), (0 : Int), (0 : Int))) = Prod.fst (List.getD b_556 (Int.toNat s_563) ([], (0 : Int), (0 : Int), (0 : Int)))) && (Decidable.decide (Prod.fst (Prod.snd (List.getD a_555 (Int.toNat s_563) ([], (0 : Int), (0 : Int), (0 : Int)))) = Prod.fst (Prod.snd (List.getD b_556 (Int.toNat s_563) ([], (0 : Int), (0 : Int), (0 : Int))))) && (Decidable.decide (Prod.fst (Prod.snd (Prod.snd (List.getD a_555 (Int.toNat s_563) ([], (0 : Int), (0 : Int), (0 : Int))))) = Prod.fst (Prod.snd (Prod.snd (List.getD b_556 (Int.toNat s_563) ([], (0 : Int), (0 : Int), (0 : Int)))))) && Decidable.decide (Prod.snd (Prod.snd (Prod.snd (List.getD a_555 (Int.toNat s_563) ([], (0 : Int), (0 : Int), (0 : Int))))) = Prod.snd (Prod.snd (Prod.snd (List.getD b_556 (Int.toNat s_563) ([], (0 : Int), (0 : Int), (0 : Int))))))))) then
          some (Sum.inr (Sum.inl ()))
        else
          some (Sum.inl (IntKind.wrap IntKind.i64 (s_563 + (1 : Int))))
      else none
    else none
  else
    some (Sum.inr (Sum.inr ()))

noncomputable def cellarerref10_Same (a_553 : List (List UInt8 × Int × Int × Int)) (b_554 : List (List UInt8 × Int × Int × Int)) : Option (Bool) :=
  bif !Decidable.decide ((↑(List.length a_553) : Int) = (↑(List.length b_554) : Int)) then
    some (Bool.false)
  else
    (iter (cellarerref10_Same_b0 (a_553) (b_554)) ((0 : Int))).bind (Sum.elim (fun t_558 =>
      some (Bool.false)) (fun t_559 =>
      some (Bool.true)))

def cellarerlaw10_OversPrints_res (r : Bool) : AV := (fun (r_569 : Bool) => AV.bool r_569) r

def cellarerlaw10_OversPrints_out (r : Bool) : List AO := (fun (r_569 : Bool) => []) r

noncomputable def cellarerlaw10_OversPrints (l_400 : List (List UInt8 × Int × Int × Int)) : Option (Bool) :=
  (cellarerlaw10_few (l_400)).bind fun a_401 =>
    bif !a_401 then
      (cellarerlaw10_awake ).bind fun a_402 =>
        some (a_402)
    else
      (overs_Print (l_400)).bind fun a_403 =>
        (cellarerref10_Print (l_400)).bind fun a_546 =>
          Option.bind (α := Unit ⊕ Unit) (
            bif !Decidable.decide (Prod.fst a_403 = Prod.fst a_546) then
              some (Sum.inl ())
            else
              bif !Decidable.decide (Prod.snd a_403 = Prod.snd a_546) then
                some (Sum.inl ())
              else
                (overs_Check (l_400)).bind fun a_547 =>
                  (cellarerref10_Check (l_400)).bind fun a_548 =>
                    bif !Decidable.decide (a_547 = a_548) then
                      some (Sum.inl ())
                    else
                      some (Sum.inr ())) (Sum.elim (fun t_549 =>
            some (Bool.false)) (fun t_550 =>
            bif !Decidable.decide (Prod.snd a_403 = (0 : Int)) then
              (cellarerlaw10_awake ).bind fun a_551 =>
                some (a_551)
            else
              (overs_Parse (Prod.fst a_403)).bind fun a_552 =>
                bif Decidable.decide (Prod.fst a_552 = (0 : Int)) then
                  (cellarerref10_Same (List.drop (0 : Nat) (Prod.snd a_552)) (l_400)).bind fun a_565 =>
                    bif a_565 then
                      (cellarerlaw10_awake ).bind fun a_566 =>
                        some (a_566)
                    else
                      some (Bool.false)
                else
                  some (Bool.false)))

def cellarerref06_Split_res (r : List (List UInt8)) : AV := (fun (r_592 : List (List UInt8)) => AV.view (0 : Nat) (0 : Nat) Option.none) r

def cellarerref06_Split_out (r : List (List UInt8)) : List AO := (fun (r_592 : List (List UInt8)) => [AO.row Ty.str r_592]) r

noncomputable def cellarerref06_Split_b0 (s_582 : List UInt8) (c_583 : Int) (s_593 : List UInt8 × Int × List (List UInt8)) : Option ((List UInt8 × Int × List (List UInt8)) ⊕ (List UInt8 × List (List UInt8))) :=
  bif Decidable.decide (Prod.fst (Prod.snd s_593) < (↑(List.length s_582) : Int)) then
    if (0 : Int) ≤ Prod.fst (Prod.snd s_593) ∧ Prod.fst (Prod.snd s_593) < (↑(List.length s_582) : Int) then
      bif Decidable.decide ((↑(UInt8.toNat (List.getD s_582 (Int.toNat (Prod.fst (Prod.snd s_593))) (0 : UInt8))) : Int) = c_583) then
        if (List.length (Prod.snd (Prod.snd s_593)) + List.length ((fun (x : List (Ty.T Ty.str)) => x) [Prod.fst s_593])) * (16 : Nat) ≤ (17592186044416 : Nat) then
          some (Sum.inl ([], IntKind.wrap IntKind.i64 (Prod.fst (Prod.snd s_593) + (1 : Int)), Prod.snd (Prod.snd s_593) ++ [Prod.fst s_593]))
        else none
      else
        if (0 : Int) ≤ Prod.fst (Prod.snd s_593) ∧ Prod.fst (Prod.snd s_593) ≤ IntKind.wrap IntKind.i64 (Prod.fst (Prod.snd s_593) + (1 : Int)) ∧ IntKind.wrap IntKind.i64 (Prod.fst (Prod.snd s_593) + (1 : Int)) ≤ (↑(List.length s_582) : Int) then
          if List.length (Prod.fst s_593) + List.length (List.drop (Int.toNat (Prod.fst (Prod.snd s_593))) (List.take (Int.toNat (IntKind.wrap IntKind.i64 (Prod.fst (Prod.snd s_593) + (1 : Int)))) s_582)) ≤ (140737488355328 : Nat) then
            some (Sum.inl (Prod.fst s_593 ++ List.drop (Int.toNat (Prod.fst (Prod.snd s_593))) (List.take (Int.toNat (IntKind.wrap IntKind.i64 (Prod.fst (Prod.snd s_593) + (1 : Int)))) s_582), IntKind.wrap IntKind.i64 (Prod.fst (Prod.snd s_593) + (1 : Int)), Prod.snd (Prod.snd s_593)))
          else none
        else none
    else none
  else
    some (Sum.inr (Prod.fst s_593, Prod.snd (Prod.snd s_593)))

noncomputable def cellarerref06_Split (s_576 : List UInt8) (c_577 : Int) : Option (List (List UInt8)) :=
  (iter (cellarerref06_Split_b0 (s_576) (c_577)) ([], (0 : Int), [])).bind (fun t_589 =>
    if (List.length (Prod.snd t_589) + List.length ((fun (x : List (Ty.T Ty.str)) => x) [Prod.fst t_589])) * (16 : Nat) ≤ (17592186044416 : Nat) then
      some (Prod.snd t_589 ++ [Prod.fst t_589])
    else none)

def cellarerref06_Lines_res (r : Bool × List (List UInt8)) : AV := (fun (r_598 : Bool × List (List UInt8)) => AV.tup [AV.view (0 : Nat) (0 : Nat) Option.none, AV.bool (Prod.fst r_598)]) r

def cellarerref06_Lines_out (r : Bool × List (List UInt8)) : List AO := (fun (r_598 : Bool × List (List UInt8)) => [AO.row Ty.str (Prod.snd r_598)]) r

noncomputable def cellarerref06_Lines (s_575 : List UInt8) : Option (Bool × List (List UInt8)) :=
  (cellarerref06_Split (s_575) ((10 : Int))).bind fun a_595 =>
    if (0 : Int) ≤ (0 : Int) ∧ (0 : Int) ≤ IntKind.wrap IntKind.i64 ((↑(List.length a_595) : Int) - (↑(0 : Nat) : Int) - (1 : Int)) ∧ (↑(0 : Nat) : Int) + IntKind.wrap IntKind.i64 ((↑(List.length a_595) : Int) - (↑(0 : Nat) : Int) - (1 : Int)) ≤ (↑(List.length a_595) : Int) then
      if (0 : Int) ≤ IntKind.wrap IntKind.i64 ((↑(List.length a_595) : Int) - (↑(0 : Nat) : Int) - (1 : Int)) ∧ IntKind.wrap IntKind.i64 ((↑(List.length a_595) : Int) - (↑(0 : Nat) : Int) - (1 : Int)) + (↑(0 : Nat) : Int) < (↑(List.length a_595) : Int) then
        if (0 : Nat) + Int.toNat (IntKind.wrap IntKind.i64 ((↑(List.length a_595) : Int) - (↑(0 : Nat) : Int) - (1 : Int))) < List.length a_595 then
          some (Decidable.decide (List.getD a_595 ((0 : Nat) + Int.toNat (IntKind.wrap IntKind.i64 ((↑(List.length a_595) : Int) - (↑(0 : Nat) : Int) - (1 : Int)))) [] = []), List.take ((0 : Nat) + Int.toNat (IntKind.wrap IntKind.i64 ((↑(List.length a_595) : Int) - (↑(0 : Nat) : Int) - (1 : Int)))) a_595)
        else none
      else none
    else none

def cellarerref10_behind_res (r : List UInt8) : AV := (fun (r_607 : List UInt8) => AV.str r_607) r

def cellarerref10_behind_out (r : List UInt8) : List AO := (fun (r_607 : List UInt8) => []) r

noncomputable def cellarerref10_behind (s_605 : List UInt8) : Option (List UInt8) :=
  bif Decidable.decide (s_605 = []) then
    some ([])
  else
    if (0 : Int) ≤ (1 : Int) ∧ (1 : Int) ≤ (↑(List.length s_605) : Int) ∧ (↑(List.length s_605) : Int) ≤ (↑(List.length s_605) : Int) then
      some (List.drop (Int.toNat (1 : Int)) (List.take (Int.toNat (↑(List.length s_605) : Int)) s_605))
    else none

def cellarerref01_Int_res (r : Int × Bool) : AV := (fun (r_626 : Int × Bool) => AV.tup [AV.int IntKind.i64 (Prod.fst r_626), AV.bool (Prod.snd r_626)]) r

def cellarerref01_Int_out (r : Int × Bool) : List AO := (fun (r_626 : Int × Bool) => []) r

noncomputable def cellarerref01_Int_b0 (s_612 : List UInt8) (s_627 : Int × Int) : Option ((Int × Int) ⊕ (Int)) :=
  bif Decidable.decide (Prod.snd s_627 < (↑(List.length s_612) : Int)) then
    if (0 : Int) ≤ Prod.snd s_627 ∧ Prod.snd s_627 < (↑(List.length s_612) : Int) then
      bif !Decidable.decide ((↑(UInt8.toNat (List.getD s_612 (Int.toNat (Prod.snd s_627)) (0 : UInt8))) : Int) = (45 : Int)) then
        if (0 : Int) ≤ Prod.snd s_627 ∧ Prod.snd s_627 < (↑(List.length s_612) : Int) then
          some (Sum.inl (IntKind.wrap IntKind.u64 (IntKind.wrap IntKind.u64 (IntKind.wrap IntKind.u64 ((10 : Int) * Prod.fst s_627) + IntKind.wrap IntKind.u64 (↑(UInt8.toNat (List.getD s_612 (Int.toNat (Prod.snd s_627)) (0 : UInt8))) : Int)) - (48 : Int)), IntKind.wrap IntKind.i64 (Prod.snd s_627 + (1 : Int))))
        else none
      else
        some (Sum.inl (Prod.fst s_627, IntKind.wrap IntKind.i64 (Prod.snd s_627 + (1 : Int))))
    else none
  else
    some (Sum.inr (Prod.fst s_627))

noncomputable def cellarerref01_Int (s_609 : List UInt8) : Option (Int × Bool) :=
  Option.bind (α := Bool) (
    bif Decidable.decide ((0 : Int) < (↑(List.length s_609) : Int)) then
      if (0 : Int) ≤ (0 : Int) ∧ (0 : Int) < (↑(List.length s_609) : Int) then
        some (Decidable.decide ((↑(UInt8.toNat (List.getD s_609 (Int.toNat (0 : Int)) (0 : UInt8))) : Int) = (45 : Int)))
      else none
    else
      some (Bool.false)) (fun t_611 =>
    bif Decidable.decide ((20 : Int) < (↑(List.length s_609) : Int)) then
      some ((0 : Int), Bool.false)
    else
      (iter (cellarerref01_Int_b0 (s_609)) ((0 : Int), (0 : Int))).bind (fun t_617 =>
        Option.bind (α := Int) (
          bif t_611 then
            some (IntKind.wrap IntKind.u64 ((0 : Int) - t_617))
          else
            some (t_617)) (fun t_619 =>
          (cellarerref01_Text (IntKind.wrap IntKind.i64 t_619)).bind fun a_620 =>
            bif !Decidable.decide (a_620 = s_609) then
              some ((0 : Int), Bool.false)
            else
              some (IntKind.wrap IntKind.i64 t_619, Bool.true))))

def cellarerref01_ParseOctal_res (r : Int × Bool) : AV := (fun (r_645 : Int × Bool) => AV.tup [AV.int IntKind.i64 (Prod.fst r_645), AV.bool (Prod.snd r_645)]) r

def cellarerref01_ParseOctal_out (r : Int × Bool) : List AO := (fun (r_645 : Int × Bool) => []) r

noncomputable def cellarerref01_ParseOctal_b0 (s_633 : List UInt8) (s_646 : Int × Int) : Option ((Int × Int) ⊕ (Int)) :=
  Option.bind (α := Unit ⊕ Unit) (
    bif Decidable.decide (Prod.snd s_646 < (↑(List.length s_633) : Int)) then
      bif Decidable.decide (Prod.snd s_646 < (5 : Int)) then
        some (Sum.inl ())
      else
        some (Sum.inr ())
    else
      some (Sum.inr ())) (Sum.elim (fun t_636 =>
    if (0 : Int) ≤ Prod.snd s_646 ∧ Prod.snd s_646 < (↑(List.length s_633) : Int) then
      some (Sum.inl (IntKind.wrap IntKind.i64 (IntKind.wrap IntKind.i64 (IntKind.wrap IntKind.i64 ((8 : Int) * Prod.fst s_646) + IntKind.wrap IntKind.i64 (↑(UInt8.toNat (List.getD s_633 (Int.toNat (Prod.snd s_646)) (0 : UInt8))) : Int)) - (48 : Int)), IntKind.wrap IntKind.i64 (Prod.snd s_646 + (1 : Int))))
    else none) (fun t_637 =>
    some (Sum.inr (Prod.fst s_646))))

noncomputable def cellarerref01_ParseOctal (s_632 : List UInt8) : Option (Int × Bool) :=
  (iter (cellarerref01_ParseOctal_b0 (s_632)) ((0 : Int), (0 : Int))).bind (fun t_640 =>
    bif !Decidable.decide ((↑(List.length s_632) : Int) = (4 : Int)) then
      some ((0 : Int), Bool.false)
    else
      bif Decidable.decide (t_640 < (0 : Int)) then
        some ((0 : Int), Bool.false)
      else
        (cellarerref01_Octal (t_640)).bind fun a_641 =>
          bif !Decidable.decide (a_641 = s_632) then
            some ((0 : Int), Bool.false)
          else
            some (t_640, Bool.true))

def cellarerref10_Parse_res (r : Bool × List (List UInt8 × Int × Int × Int)) : AV := (fun (r_667 : Bool × List (List UInt8 × Int × Int × Int)) => AV.tup [AV.view (0 : Nat) (0 : Nat) Option.none, AV.bool (Prod.fst r_667)]) r

def cellarerref10_Parse_out (r : Bool × List (List UInt8 × Int × Int × Int)) : List AO := (fun (r_667 : Bool × List (List UInt8 × Int × Int × Int)) => [AO.row (Ty.prod Ty.str (Ty.prod (Ty.int IntKind.i64) (Ty.prod (Ty.int IntKind.i64) (Ty.int IntKind.i64)))) (Prod.snd r_667)]) r

noncomputable def cellarerref10_Parse_b0 (o1_653 : List (List UInt8)) (s_668 : Int × List (List UInt8 × Int × Int × Int)) : Option ((Int × List (List UInt8 × Int × Int × Int)) ⊕ (Unit ⊕ List (List UInt8 × Int × Int × Int))) :=
  bif Decidable.decide (Prod.fst s_668 < (↑(List.length o1_653) : Int) - (↑(0 : Nat) : Int)) then
    if (0 : Int) ≤ Prod.fst s_668 ∧ Prod.fst s_668 + (↑(0 : Nat) : Int) < (↑(List.length o1_653) : Int) then
      if (0 : Nat) + Int.toNat (Prod.fst s_668) < List.length o1_653 then
        (cellarerref06_Split (List.getD o1_653 ((0 : Nat) + Int.toNat (Prod.fst s_668)) []) ((32 : Int))).bind fun a_654 =>
          bif !Decidable.decide ((↑(List.length a_654) : Int) - (↑(0 : Nat) : Int) = (4 : Int)) then
            some (Sum.inr (Sum.inl ()))
          else
            if (0 : Int) ≤ (0 : Int) ∧ (0 : Int) + (↑(0 : Nat) : Int) < (↑(List.length a_654) : Int) then
              if (0 : Nat) < List.length a_654 then
                (cellarerref10_behind (List.getD a_654 (0 : Nat) [])).bind fun a_655 =>
                  (cellarerref01_Int (a_655)).bind fun a_656 =>
                    if (0 : Int) ≤ (1 : Int) ∧ (1 : Int) + (↑(0 : Nat) : Int) < (↑(List.length a_654) : Int) then
                      if (1 : Nat) < List.length a_654 then
                        (cellarerref10_behind (List.getD a_654 (1 : Nat) [])).bind fun a_657 =>
                          (cellarerref01_Int (a_657)).bind fun a_658 =>
                            if (0 : Int) ≤ (2 : Int) ∧ (2 : Int) + (↑(0 : Nat) : Int) < (↑(List.length a_654) : Int) then
                              if (2 : Nat) < List.length a_654 then
                                (cellarerref01_ParseOctal (List.getD a_654 (2 : Nat) [])).bind fun a_659 =>
                                  if (0 : Int) ≤ (3 : Int) ∧ (3 : Int) + (↑(0 : Nat) : Int) < (↑(List.length a_654) : Int) then
                                    if (3 : Nat) < List.length a_654 then
                                      if (List.length (Prod.snd s_668) + List.length ((fun (x : List (Ty.T (Ty.prod Ty.str (Ty.prod (Ty.int IntKind.i64) (Ty.prod (Ty.int IntKind.i64) (Ty.int IntKind.i64)))))) => x) [(List.getD a_654 (3 : Nat) [], Prod.fst a_659, Prod.fst a_656, Prod.fst a_658)])) * (40 : Nat) ≤ (17592186044416 : Nat) then
                                        some (Sum.inl (IntKind.wrap IntKind.i64 (Prod.fst s_668 + (1 : Int)), Prod.snd s_668 ++ [(List.getD a_654 (3 : Nat) [], Prod.fst a_659, Prod.fst a_656, Prod.fst a_658)]))
                                      else none
                                    else none
                                  else none
                              else none
                            else none
                      else none
                    else none
              else none
            else none
      else none
    else none
  else
    some (Sum.inr (Sum.inr (Prod.snd s_668)))

noncomputable def cellarerref10_Parse (s_574 : List UInt8) : Option (Bool × List (List UInt8 × Int × Int × Int)) :=
  (cellarerref06_Lines (s_574)).bind fun a_599 =>
    (iter (cellarerref10_Parse_b0 (Prod.snd a_599)) ((0 : Int), [])).bind (Sum.elim (fun t_660 =>
      some (Bool.false, [])) (fun t_662 =>
      (cellarerref10_Print (List.drop (0 : Nat) t_662)).bind fun a_663 =>
        bif !Prod.fst a_599 then
          some (Bool.false, [])
        else
          bif !Decidable.decide (Prod.snd a_663 = (0 : Int)) then
            some (Bool.false, [])
          else
            bif !Decidable.decide (Prod.fst a_663 = s_574) then
              some (Bool.false, [])
            else
              some (Bool.true, t_662)))

def cellarerlaw10_OversParses_res (r : Bool) : AV := (fun (r_679 : Bool) => AV.bool r_679) r

def cellarerlaw10_OversParses_out (r : Bool) : List AO := (fun (r_679 : Bool) => []) r

noncomputable def cellarerlaw10_OversParses (s_571 : List UInt8) : Option (Bool) :=
  bif Decidable.decide ((3000 : Int) < (↑(List.length s_571) : Int)) then
    (cellarerlaw10_awake ).bind fun a_572 =>
      some (a_572)
  else
    (overs_Parse (s_571)).bind fun a_573 =>
      (cellarerref10_Parse (s_571)).bind fun a_670 =>
        Option.bind (α := Unit ⊕ Unit) (
          bif !Decidable.decide (Prod.fst a_670 = Decidable.decide (Prod.fst a_573 = (0 : Int))) then
            some (Sum.inl ())
          else
            bif Prod.fst a_670 then
              (cellarerref10_Same (List.drop (0 : Nat) (Prod.snd a_573)) (List.drop (0 : Nat) (Prod.snd a_670))).bind fun a_671 =>
                bif !a_671 then
                  some (Sum.inl ())
                else
                  bif !Prod.fst a_670 then
                    bif !Decidable.decide (Prod.fst a_573 = (2 : Int)) then
                      some (Sum.inl ())
                    else
                      bif !Decidable.decide ((↑(List.length (Prod.snd a_573)) : Int) - (↑(0 : Nat) : Int) = (0 : Int)) then
                        some (Sum.inl ())
                      else
                        some (Sum.inr ())
                  else
                    some (Sum.inr ())
            else
              bif !Prod.fst a_670 then
                bif !Decidable.decide (Prod.fst a_573 = (2 : Int)) then
                  some (Sum.inl ())
                else
                  bif !Decidable.decide ((↑(List.length (Prod.snd a_573)) : Int) - (↑(0 : Nat) : Int) = (0 : Int)) then
                    some (Sum.inl ())
                  else
                    some (Sum.inr ())
              else
                some (Sum.inr ())) (Sum.elim (fun t_672 =>
          some (Bool.false)) (fun t_673 =>
          bif !Prod.fst a_670 then
            (cellarerlaw10_awake ).bind fun a_674 =>
              some (a_674)
          else
            (overs_Print (List.drop (0 : Nat) (Prod.snd a_573))).bind fun a_675 =>
              bif Decidable.decide (Prod.snd a_675 = (0 : Int)) then
                bif Decidable.decide (Prod.fst a_675 = s_571) then
                  (cellarerlaw10_awake ).bind fun a_676 =>
                    some (a_676)
                else
                  some (Bool.false)
              else
                some (Bool.false)))

def cellarerref10_Find_res (r : Int) : AV := (fun (r_710 : Int) => AV.int IntKind.i64 r_710) r

def cellarerref10_Find_out (r : Int) : List AO := (fun (r_710 : Int) => []) r

noncomputable def cellarerref10_Find_b0 (l_702 : List (List UInt8 × Int × Int × Int)) (p_703 : List UInt8) (s_711 : Int) : Option ((Int) ⊕ (Int ⊕ Unit)) :=
  bif Decidable.decide (s_711 < (↑(List.length l_702) : Int)) then
    if (0 : Int) ≤ s_711 ∧ s_711 < (↑(List.length l_702) : Int) then
      bif Decidable.decide (Prod.fst (List.getD l_702 (Int.toNat s_711) ([], (0 : Int), (0 : Int), (0 : Int))) = p_703) then
        some (Sum.inr (Sum.inl (s_711)))
      else
        some (Sum.inl (IntKind.wrap IntKind.i64 (s_711 + (1 : Int))))
    else none
  else
    some (Sum.inr (Sum.inr ()))

noncomputable def cellarerref10_Find (l_700 : List (List UInt8 × Int × Int × Int)) (p_701 : List UInt8) : Option (Int) :=
  (iter (cellarerref10_Find_b0 (l_700) (p_701)) ((0 : Int))).bind (Sum.elim (fun t_706 =>
    some (t_706)) (fun t_707 =>
    some ((-1 : Int))))

def cellarerref10_Meta_res (r : Int × Int × Int) : AV := (fun (r_717 : Int × Int × Int) => AV.agg [AV.int IntKind.i64 (Prod.fst r_717), AV.int IntKind.i64 (Prod.fst (Prod.snd r_717)), AV.int IntKind.i64 (Prod.snd (Prod.snd r_717))]) r

def cellarerref10_Meta_out (r : Int × Int × Int) : List AO := (fun (r_717 : Int × Int × Int) => []) r

noncomputable def cellarerref10_Meta (l_695 : List (List UInt8 × Int × Int × Int)) (p_696 : List UInt8) (m_697 : Int) (m_698 : Int) (m_699 : Int) : Option (Int × Int × Int) :=
  (cellarerref10_Find (l_695) (p_696)).bind fun a_713 =>
    bif Decidable.decide (a_713 < (0 : Int)) then
      some (m_697, m_698, m_699)
    else
      if (0 : Int) ≤ a_713 ∧ a_713 < (↑(List.length l_695) : Int) then
        some (Prod.fst (Prod.snd (List.getD l_695 (Int.toNat a_713) ([], (0 : Int), (0 : Int), (0 : Int)))), Prod.fst (Prod.snd (Prod.snd (List.getD l_695 (Int.toNat a_713) ([], (0 : Int), (0 : Int), (0 : Int))))), Prod.snd (Prod.snd (Prod.snd (List.getD l_695 (Int.toNat a_713) ([], (0 : Int), (0 : Int), (0 : Int))))))
      else none

def cellarerlaw10_OversMetas_res (r : Bool) : AV := (fun (r_722 : Bool) => AV.bool r_722) r

def cellarerlaw10_OversMetas_out (r : Bool) : List AO := (fun (r_722 : Bool) => []) r

noncomputable def cellarerlaw10_OversMetas (l_683 : List (List UInt8 × Int × Int × Int)) (p_684 : List UInt8) (m_685 : Int) (m_686 : Int) (m_687 : Int) : Option (Bool) :=
  Option.bind (α := Bool ⊕ Unit) (
    (cellarerlaw10_few (l_683)).bind fun a_688 =>
      bif !a_688 then
        (cellarerlaw10_awake ).bind fun a_689 =>
          some (Sum.inl (a_689))
      else
        bif Decidable.decide ((300 : Int) < (↑(List.length p_684) : Int)) then
          (cellarerlaw10_awake ).bind fun a_690 =>
            some (Sum.inl (a_690))
        else
          some (Sum.inr ())) (Sum.elim (fun t_692 =>
    some (t_692)) (fun t_693 =>
    (overs_Meta (l_683) (p_684) (m_685) (m_686) (m_687)).bind fun a_694 =>
      (cellarerref10_Meta (l_683) (p_684) (m_685) (m_686) (m_687)).bind fun a_718 =>
        bif Decidable.decide (Prod.fst a_694 = Prod.fst a_718) && (Decidable.decide (Prod.fst (Prod.snd a_694) = Prod.fst (Prod.snd a_718)) && Decidable.decide (Prod.snd (Prod.snd a_694) = Prod.snd (Prod.snd a_718))) then
          (cellarerlaw10_awake ).bind fun a_719 =>
            some (a_719)
        else
          some (Bool.false)))

def api_Over__40_res (r : List (List UInt8 × Int × Int × Int)) : AV := (fun (r_747 : List (List UInt8 × Int × Int × Int)) => AV.view (0 : Nat) (0 : Nat) Option.none) r

def api_Over__40_out (r : List (List UInt8 × Int × Int × Int)) : List AO := (fun (r_747 : List (List UInt8 × Int × Int × Int)) => [AO.row (Ty.prod Ty.str (Ty.prod (Ty.int IntKind.i64) (Ty.prod (Ty.int IntKind.i64) (Ty.int IntKind.i64)))) r_747]) r

noncomputable def api_Over__40 (s_745 : List (List UInt8 × Int × Int × Int)) : Option (List (List UInt8 × Int × Int × Int)) :=
  mayb (List.isEmpty s_745) (
    some ([])) (
    if ((0 : Nat) + List.length s_745) * (40 : Nat) ≤ (17592186044416 : Nat) ∧ ((0 : Nat) < List.length s_745 ∨ (0 : Nat) = (0 : Nat)) then
      some (s_745)
    else none)

def overs_Put_1_res (r : Bool × List UInt8 × Int × Int × Int) : AV := (fun (r_775 : Bool × List UInt8 × Int × Int × Int) => AV.bool (Prod.fst r_775)) r

def overs_Put_1_out (r : Bool × List UInt8 × Int × Int × Int) : List AO := (fun (r_775 : Bool × List UInt8 × Int × Int × Int) => [AO.box [AV.str (Prod.fst (Prod.snd r_775)), AV.int IntKind.i64 (Prod.fst (Prod.snd (Prod.snd r_775))), AV.int IntKind.i64 (Prod.fst (Prod.snd (Prod.snd (Prod.snd r_775)))), AV.int IntKind.i64 (Prod.snd (Prod.snd (Prod.snd (Prod.snd r_775))))]]) r

noncomputable def overs_Put_1 (y_762 : List UInt8) (y_763 : Int) (y_764 : Int) (y_765 : Int) (o0_766 : List UInt8) (o0_767 : Int) (o0_768 : Int) (o0_769 : Int) : Option (Bool × List UInt8 × Int × Int × Int) :=
  some (!(Go.Op.bytesLess y_762 o0_766 || Decidable.decide (y_762 = o0_766)), o0_766, o0_767, o0_768, o0_769)

def api_Over__v1_res (r : Int × List UInt8 × Int × Int × Int) : AV := (fun (r_794 : Int × List UInt8 × Int × Int × Int) => AV.int IntKind.i64 (Prod.fst r_794)) r

def api_Over__v1_out (r : Int × List UInt8 × Int × Int × Int) : List AO := (fun (r_794 : Int × List UInt8 × Int × Int × Int) => [AO.box [AV.str (Prod.fst (Prod.snd r_794)), AV.int IntKind.i64 (Prod.fst (Prod.snd (Prod.snd r_794))), AV.int IntKind.i64 (Prod.fst (Prod.snd (Prod.snd (Prod.snd r_794)))), AV.int IntKind.i64 (Prod.snd (Prod.snd (Prod.snd (Prod.snd r_794))))]]) r

noncomputable def api_Over__v1_b0 (s_755 : List (List UInt8 × Int × Int × Int)) (t_756 : Int) (s_795 : Int × List UInt8 × Int × Int × Int) : Option ((Int × List UInt8 × Int × Int × Int) ⊕ (Int × List UInt8 × Int × Int × Int ⊕ List UInt8 × Int × Int × Int)) :=
  bif Decidable.decide (Prod.fst s_795 < t_756) then
    if (0 : Int) ≤ Prod.fst s_795 ∧ Prod.fst s_795 < (↑(List.length s_755) : Int) then
      (overs_Put_1 (Prod.fst (List.getD s_755 (Int.toNat (Prod.fst s_795)) ([], (0 : Int), (0 : Int), (0 : Int)))) (Prod.fst (Prod.snd (List.getD s_755 (Int.toNat (Prod.fst s_795)) ([], (0 : Int), (0 : Int), (0 : Int))))) (Prod.fst (Prod.snd (Prod.snd (List.getD s_755 (Int.toNat (Prod.fst s_795)) ([], (0 : Int), (0 : Int), (0 : Int)))))) (Prod.snd (Prod.snd (Prod.snd (List.getD s_755 (Int.toNat (Prod.fst s_795)) ([], (0 : Int), (0 : Int), (0 : Int)))))) (Prod.fst (Prod.snd s_795)) (Prod.fst (Prod.snd (Prod.snd s_795))) (Prod.fst (Prod.snd (Prod.snd (Prod.snd s_795)))) (Prod.snd (Prod.snd (Prod.snd (Prod.snd s_795))))).bind fun a_776 =>
        bif Prod.fst a_776 then
          some (Sum.inr (Sum.inl (Prod.fst s_795, Prod.fst (Prod.snd a_776), Prod.fst (Prod.snd (Prod.snd a_776)), Prod.fst (Prod.snd (Prod.snd (Prod.snd a_776))), Prod.snd (Prod.snd (Prod.snd (Prod.snd a_776))))))
        else
          some (Sum.inl (IntKind.wrap IntKind.i64 (Prod.fst s_795 + (1 : Int)), Prod.fst (Prod.snd a_776), Prod.fst (Prod.snd (Prod.snd a_776)), Prod.fst (Prod.snd (Prod.snd (Prod.snd a_776))), Prod.snd (Prod.snd (Prod.snd (Prod.snd a_776)))))
    else none
  else
    some (Sum.inr (Sum.inr (Prod.fst (Prod.snd s_795), Prod.fst (Prod.snd (Prod.snd s_795)), Prod.fst (Prod.snd (Prod.snd (Prod.snd s_795))), Prod.snd (Prod.snd (Prod.snd (Prod.snd s_795))))))

noncomputable def api_Over__v1 (s_750 : List (List UInt8 × Int × Int × Int)) (o0_751 : List UInt8) (o0_752 : Int) (o0_753 : Int) (o0_754 : Int) : Option (Int × List UInt8 × Int × Int × Int) :=
  (iter (api_Over__v1_b0 (s_750) ((↑(List.length s_750) : Int))) ((0 : Int), o0_751, o0_752, o0_753, o0_754)).bind (Sum.elim (fun t_782 =>
    some (Prod.fst t_782, Prod.fst (Prod.snd t_782), Prod.fst (Prod.snd (Prod.snd t_782)), Prod.fst (Prod.snd (Prod.snd (Prod.snd t_782))), Prod.snd (Prod.snd (Prod.snd (Prod.snd t_782))))) (fun t_787 =>
    some ((-1 : Int), Prod.fst t_787, Prod.fst (Prod.snd t_787), Prod.fst (Prod.snd (Prod.snd t_787)), Prod.snd (Prod.snd (Prod.snd t_787)))))

def overs_Put_res (r : List (List UInt8 × Int × Int × Int)) : AV := (fun (r_801 : List (List UInt8 × Int × Int × Int)) => AV.view (0 : Nat) (0 : Nat) Option.none) r

def overs_Put_out (r : List (List UInt8 × Int × Int × Int)) : List AO := (fun (r_801 : List (List UInt8 × Int × Int × Int)) => [AO.row (Ty.prod Ty.str (Ty.prod (Ty.int IntKind.i64) (Ty.prod (Ty.int IntKind.i64) (Ty.int IntKind.i64)))) r_801]) r

noncomputable def overs_Put (l_740 : List (List UInt8 × Int × Int × Int)) (x_741 : List UInt8) (x_742 : Int) (x_743 : Int) (x_744 : Int) : Option (List (List UInt8 × Int × Int × Int)) :=
  (api_Over__40 (l_740)).bind fun a_748 =>
    (overs_Find (l_740) (x_741)).bind fun a_749 =>
      bif Decidable.decide ((0 : Int) ≤ a_749) then
        if (0 : Int) ≤ a_749 ∧ a_749 + (↑(0 : Nat) : Int) < (↑(List.length a_748) : Int) then
          if (0 : Nat) + Int.toNat a_749 < List.length a_748 then
            some (List.set a_748 ((0 : Nat) + Int.toNat a_749) (x_741, x_742, x_743, x_744))
          else none
        else none
      else
        (api_Over__v1 (l_740) (x_741) (x_742) (x_743) (x_744)).bind fun a_797 =>
          bif Decidable.decide (Prod.fst a_797 < (0 : Int)) then
            (api_Over__43 ((↑(List.length l_740) : Int)) ([(Prod.fst (Prod.snd a_797), Prod.fst (Prod.snd (Prod.snd a_797)), Prod.fst (Prod.snd (Prod.snd (Prod.snd a_797))), Prod.snd (Prod.snd (Prod.snd (Prod.snd a_797))))]) (a_748)).bind fun a_798 =>
              some (a_798)
          else
            (api_Over__43 (Prod.fst a_797) ([(Prod.fst (Prod.snd a_797), Prod.fst (Prod.snd (Prod.snd a_797)), Prod.fst (Prod.snd (Prod.snd (Prod.snd a_797))), Prod.snd (Prod.snd (Prod.snd (Prod.snd a_797))))]) (a_748)).bind fun a_799 =>
              some (a_799)

def overs_Drop_1_res (r : Bool × List UInt8) : AV := (fun (r_821 : Bool × List UInt8) => AV.bool (Prod.fst r_821)) r

def overs_Drop_1_out (r : Bool × List UInt8) : List AO := (fun (r_821 : Bool × List UInt8) => [AO.box [AV.str (Prod.snd r_821)]]) r

noncomputable def overs_Drop_1 (x_814 : List UInt8) (x_815 : Int) (x_816 : Int) (x_817 : Int) (o0_818 : List UInt8) : Option (Bool × List UInt8) :=
  some (Decidable.decide (x_814 = o0_818), o0_818)

def api_Over__v2_res (r : Int × List UInt8) : AV := (fun (r_831 : Int × List UInt8) => AV.int IntKind.i64 (Prod.fst r_831)) r

def api_Over__v2_out (r : Int × List UInt8) : List AO := (fun (r_831 : Int × List UInt8) => [AO.box [AV.str (Prod.snd r_831)]]) r

noncomputable def api_Over__v2_b0 (s_810 : List (List UInt8 × Int × Int × Int)) (t_811 : Int) (s_832 : Int × List UInt8) : Option ((Int × List UInt8) ⊕ (Int × List UInt8 ⊕ List UInt8)) :=
  bif Decidable.decide (Prod.fst s_832 < t_811) then
    if (0 : Int) ≤ Prod.fst s_832 ∧ Prod.fst s_832 < (↑(List.length s_810) : Int) then
      (overs_Drop_1 (Prod.fst (List.getD s_810 (Int.toNat (Prod.fst s_832)) ([], (0 : Int), (0 : Int), (0 : Int)))) (Prod.fst (Prod.snd (List.getD s_810 (Int.toNat (Prod.fst s_832)) ([], (0 : Int), (0 : Int), (0 : Int))))) (Prod.fst (Prod.snd (Prod.snd (List.getD s_810 (Int.toNat (Prod.fst s_832)) ([], (0 : Int), (0 : Int), (0 : Int)))))) (Prod.snd (Prod.snd (Prod.snd (List.getD s_810 (Int.toNat (Prod.fst s_832)) ([], (0 : Int), (0 : Int), (0 : Int)))))) (Prod.snd s_832)).bind fun a_822 =>
        bif Prod.fst a_822 then
          some (Sum.inr (Sum.inl (Prod.fst s_832, Prod.snd a_822)))
        else
          some (Sum.inl (IntKind.wrap IntKind.i64 (Prod.fst s_832 + (1 : Int)), Prod.snd a_822))
    else none
  else
    some (Sum.inr (Sum.inr (Prod.snd s_832)))

noncomputable def api_Over__v2 (s_808 : List (List UInt8 × Int × Int × Int)) (o0_809 : List UInt8) : Option (Int × List UInt8) :=
  (iter (api_Over__v2_b0 (s_808) ((↑(List.length s_808) : Int))) ((0 : Int), o0_809)).bind (Sum.elim (fun t_825 =>
    some (Prod.fst t_825, Prod.snd t_825)) (fun t_827 =>
    some ((-1 : Int), t_827)))

def api_Over__44_res (r : List UInt8 × List (List UInt8 × Int × Int × Int)) : AV := (fun (r_847 : List UInt8 × List (List UInt8 × Int × Int × Int)) => AV.view (1 : Nat) (0 : Nat) Option.none) r

def api_Over__44_out (r : List UInt8 × List (List UInt8 × Int × Int × Int)) : List AO := (fun (r_847 : List UInt8 × List (List UInt8 × Int × Int × Int)) => [AO.box [AV.str (Prod.fst r_847)], AO.row (Ty.prod Ty.str (Ty.prod (Ty.int IntKind.i64) (Ty.prod (Ty.int IntKind.i64) (Ty.int IntKind.i64)))) (Prod.snd r_847)]) r

noncomputable def api_Over__44_b0  (s_848 : Int × Int × List UInt8 × List (List UInt8 × Int × Int × Int)) : Option ((Int × Int × List UInt8 × List (List UInt8 × Int × Int × Int)) ⊕ (Int × List UInt8 × List (List UInt8 × Int × Int × Int))) :=
  bif Decidable.decide (Prod.fst (Prod.snd s_848) < (↑(List.length (Prod.snd (Prod.snd (Prod.snd s_848)))) : Int) - (↑(0 : Nat) : Int)) then
    if (0 : Int) ≤ Prod.fst (Prod.snd s_848) ∧ Prod.fst (Prod.snd s_848) + (↑(0 : Nat) : Int) < (↑(List.length (Prod.snd (Prod.snd (Prod.snd s_848)))) : Int) then
      if (0 : Nat) + Int.toNat (Prod.fst (Prod.snd s_848)) < List.length (Prod.snd (Prod.snd (Prod.snd s_848))) then
        (overs_Drop_1 (Prod.fst (List.getD (Prod.snd (Prod.snd (Prod.snd s_848))) ((0 : Nat) + Int.toNat (Prod.fst (Prod.snd s_848))) ([], (0 : Int), (0 : Int), (0 : Int)))) (Prod.fst (Prod.snd (List.getD (Prod.snd (Prod.snd (Prod.snd s_848))) ((0 : Nat) + Int.toNat (Prod.fst (Prod.snd s_848))) ([], (0 : Int), (0 : Int), (0 : Int))))) (Prod.fst (Prod.snd (Prod.snd (List.getD (Prod.snd (Prod.snd (Prod.snd s_848))) ((0 : Nat) + Int.toNat (Prod.fst (Prod.snd s_848))) ([], (0 : Int), (0 : Int), (0 : Int)))))) (Prod.snd (Prod.snd (Prod.snd (List.getD (Prod.snd (Prod.snd (Prod.snd s_848))) ((0 : Nat) + Int.toNat (Prod.fst (Prod.snd s_848))) ([], (0 : Int), (0 : Int), (0 : Int)))))) (Prod.fst (Prod.snd (Prod.snd s_848)))).bind fun a_839 =>
          bif !Prod.fst a_839 then
            if (0 : Int) ≤ Prod.fst s_848 ∧ Prod.fst s_848 + (↑(0 : Nat) : Int) < (↑(List.length (Prod.snd (Prod.snd (Prod.snd s_848)))) : Int) then
              if (0 : Nat) + Int.toNat (Prod.fst s_848) < List.length (Prod.snd (Prod.snd (Prod.snd s_848))) then
                some (Sum.inl (IntKind.wrap IntKind.i64 (Prod.fst s_848 + (1 : Int)), IntKind.wrap IntKind.i64 (Prod.fst (Prod.snd s_848) + (1 : Int)), Prod.snd a_839, List.set (Prod.snd (Prod.snd (Prod.snd s_848))) ((0 : Nat) + Int.toNat (Prod.fst s_848)) (Prod.fst (List.getD (Prod.snd (Prod.snd (Prod.snd s_848))) ((0 : Nat) + Int.toNat (Prod.fst (Prod.snd s_848))) ([], (0 : Int), (0 : Int), (0 : Int))), Prod.fst (Prod.snd (List.getD (Prod.snd (Prod.snd (Prod.snd s_848))) ((0 : Nat) + Int.toNat (Prod.fst (Prod.snd s_848))) ([], (0 : Int), (0 : Int), (0 : Int)))), Prod.fst (Prod.snd (Prod.snd (List.getD (Prod.snd (Prod.snd (Prod.snd s_848))) ((0 : Nat) + Int.toNat (Prod.fst (Prod.snd s_848))) ([], (0 : Int), (0 : Int), (0 : Int))))), Prod.snd (Prod.snd (Prod.snd (List.getD (Prod.snd (Prod.snd (Prod.snd s_848))) ((0 : Nat) + Int.toNat (Prod.fst (Prod.snd s_848))) ([], (0 : Int), (0 : Int), (0 : Int))))))))
              else none
            else none
          else
            some (Sum.inl (Prod.fst s_848, IntKind.wrap IntKind.i64 (Prod.fst (Prod.snd s_848) + (1 : Int)), Prod.snd a_839, Prod.snd (Prod.snd (Prod.snd s_848))))
      else none
    else none
  else
    some (Sum.inr (Prod.fst s_848, Prod.fst (Prod.snd (Prod.snd s_848)), Prod.snd (Prod.snd (Prod.snd s_848))))

noncomputable def api_Over__44 (o0_806 : List UInt8) (o1_807 : List (List UInt8 × Int × Int × Int)) : Option (List UInt8 × List (List UInt8 × Int × Int × Int)) :=
  (api_Over__v2 (List.drop (0 : Nat) o1_807) (o0_806)).bind fun a_834 =>
    bif Decidable.decide (Prod.fst a_834 = (-1 : Int)) then
      some (Prod.snd a_834, o1_807)
    else
      (iter (api_Over__44_b0 ) (Prod.fst a_834, IntKind.wrap IntKind.i64 (Prod.fst a_834 + (1 : Int)), Prod.snd a_834, o1_807)).bind (fun t_843 =>
        if (0 : Int) ≤ Prod.fst t_843 ∧ (↑(0 : Nat) : Int) + Prod.fst t_843 ≤ (↑(List.length (Prod.snd (Prod.snd t_843))) : Int) then
          if (0 : Int) ≤ (0 : Int) ∧ (0 : Int) ≤ Prod.fst t_843 ∧ (↑(0 : Nat) : Int) + Prod.fst t_843 ≤ (↑(List.length (List.take ((0 : Nat) + Int.toNat (Prod.fst t_843)) (Prod.snd (Prod.snd t_843)) ++ List.replicate (List.length (Prod.snd (Prod.snd t_843)) - ((0 : Nat) + Int.toNat (Prod.fst t_843))) ([], (0 : Int), (0 : Int), (0 : Int)))) : Int) then
            some (Prod.fst (Prod.snd t_843), List.take ((0 : Nat) + Int.toNat (Prod.fst t_843)) (List.take ((0 : Nat) + Int.toNat (Prod.fst t_843)) (Prod.snd (Prod.snd t_843)) ++ List.replicate (List.length (Prod.snd (Prod.snd t_843)) - ((0 : Nat) + Int.toNat (Prod.fst t_843))) ([], (0 : Int), (0 : Int), (0 : Int))))
          else none
        else none)

def overs_Drop_res (r : List (List UInt8 × Int × Int × Int)) : AV := (fun (r_852 : List (List UInt8 × Int × Int × Int)) => AV.view (0 : Nat) (0 : Nat) Option.none) r

def overs_Drop_out (r : List (List UInt8 × Int × Int × Int)) : List AO := (fun (r_852 : List (List UInt8 × Int × Int × Int)) => [AO.row (Ty.prod Ty.str (Ty.prod (Ty.int IntKind.i64) (Ty.prod (Ty.int IntKind.i64) (Ty.int IntKind.i64)))) r_852]) r

noncomputable def overs_Drop (l_803 : List (List UInt8 × Int × Int × Int)) (p_804 : List UInt8) : Option (List (List UInt8 × Int × Int × Int)) :=
  (api_Over__40 (l_803)).bind fun a_805 =>
    (api_Over__44 (p_804) (a_805)).bind fun a_850 =>
      some (Prod.snd a_850)

def cellarerref10_Put_res (r : List (List UInt8 × Int × Int × Int)) : AV := (fun (r_889 : List (List UInt8 × Int × Int × Int)) => AV.view (0 : Nat) (0 : Nat) Option.none) r

def cellarerref10_Put_out (r : List (List UInt8 × Int × Int × Int)) : List AO := (fun (r_889 : List (List UInt8 × Int × Int × Int)) => [AO.row (Ty.prod Ty.str (Ty.prod (Ty.int IntKind.i64) (Ty.prod (Ty.int IntKind.i64) (Ty.int IntKind.i64)))) r_889]) r

noncomputable def cellarerref10_Put_b0 (l_871 : List (List UInt8 × Int × Int × Int)) (old_872 : Int) (o0_875 : List UInt8) (o0_876 : Int) (o0_877 : Int) (o0_878 : Int) (s_890 : Bool × Int × List (List UInt8 × Int × Int × Int)) : Option ((Bool × Int × List (List UInt8 × Int × Int × Int)) ⊕ (Bool × List (List UInt8 × Int × Int × Int))) :=
  bif Decidable.decide (Prod.fst (Prod.snd s_890) < (↑(List.length l_871) : Int)) then
    Option.bind (α := Bool × List (List UInt8 × Int × Int × Int)) (
      bif !Prod.fst s_890 then
        if (0 : Int) ≤ Prod.fst (Prod.snd s_890) ∧ Prod.fst (Prod.snd s_890) < (↑(List.length l_871) : Int) then
          bif !(Go.Op.bytesLess (Prod.fst (List.getD l_871 (Int.toNat (Prod.fst (Prod.snd s_890))) ([], (0 : Int), (0 : Int), (0 : Int)))) o0_875 || Decidable.decide (Prod.fst (List.getD l_871 (Int.toNat (Prod.fst (Prod.snd s_890))) ([], (0 : Int), (0 : Int), (0 : Int))) = o0_875)) then
            if (List.length (Prod.snd (Prod.snd s_890)) + List.length ((fun (x : List (Ty.T (Ty.prod Ty.str (Ty.prod (Ty.int IntKind.i64) (Ty.prod (Ty.int IntKind.i64) (Ty.int IntKind.i64)))))) => x) [(o0_875, o0_876, o0_877, o0_878)])) * (40 : Nat) ≤ (17592186044416 : Nat) then
              some (Bool.true, Prod.snd (Prod.snd s_890) ++ [(o0_875, o0_876, o0_877, o0_878)])
            else none
          else
            some (Prod.fst s_890, Prod.snd (Prod.snd s_890))
        else none
      else
        some (Prod.fst s_890, Prod.snd (Prod.snd s_890))) (fun t_882 =>
      bif Decidable.decide (Prod.fst (Prod.snd s_890) = old_872) then
        if (List.length (Prod.snd t_882) + List.length ((fun (x : List (Ty.T (Ty.prod Ty.str (Ty.prod (Ty.int IntKind.i64) (Ty.prod (Ty.int IntKind.i64) (Ty.int IntKind.i64)))))) => x) [(o0_875, o0_876, o0_877, o0_878)])) * (40 : Nat) ≤ (17592186044416 : Nat) then
          some (Sum.inl (Prod.fst t_882, IntKind.wrap IntKind.i64 (Prod.fst (Prod.snd s_890) + (1 : Int)), Prod.snd t_882 ++ [(o0_875, o0_876, o0_877, o0_878)]))
        else none
      else
        if (0 : Int) ≤ Prod.fst (Prod.snd s_890) ∧ Prod.fst (Prod.snd s_890) < (↑(List.length l_871) : Int) then
          if (List.length (Prod.snd t_882) + List.length ((fun (x : List (Ty.T (Ty.prod Ty.str (Ty.prod (Ty.int IntKind.i64) (Ty.prod (Ty.int IntKind.i64) (Ty.int IntKind.i64)))))) => x) [(Prod.fst (List.getD l_871 (Int.toNat (Prod.fst (Prod.snd s_890))) ([], (0 : Int), (0 : Int), (0 : Int))), Prod.fst (Prod.snd (List.getD l_871 (Int.toNat (Prod.fst (Prod.snd s_890))) ([], (0 : Int), (0 : Int), (0 : Int)))), Prod.fst (Prod.snd (Prod.snd (List.getD l_871 (Int.toNat (Prod.fst (Prod.snd s_890))) ([], (0 : Int), (0 : Int), (0 : Int))))), Prod.snd (Prod.snd (Prod.snd (List.getD l_871 (Int.toNat (Prod.fst (Prod.snd s_890))) ([], (0 : Int), (0 : Int), (0 : Int))))))])) * (40 : Nat) ≤ (17592186044416 : Nat) then
            some (Sum.inl (Prod.fst t_882, IntKind.wrap IntKind.i64 (Prod.fst (Prod.snd s_890) + (1 : Int)), Prod.snd t_882 ++ [(Prod.fst (List.getD l_871 (Int.toNat (Prod.fst (Prod.snd s_890))) ([], (0 : Int), (0 : Int), (0 : Int))), Prod.fst (Prod.snd (List.getD l_871 (Int.toNat (Prod.fst (Prod.snd s_890))) ([], (0 : Int), (0 : Int), (0 : Int)))), Prod.fst (Prod.snd (Prod.snd (List.getD l_871 (Int.toNat (Prod.fst (Prod.snd s_890))) ([], (0 : Int), (0 : Int), (0 : Int))))), Prod.snd (Prod.snd (Prod.snd (List.getD l_871 (Int.toNat (Prod.fst (Prod.snd s_890))) ([], (0 : Int), (0 : Int), (0 : Int))))))]))
          else none
        else none)
  else
    some (Sum.inr (Prod.fst s_890, Prod.snd (Prod.snd s_890)))

noncomputable def cellarerref10_Put (l_854 : List (List UInt8 × Int × Int × Int)) (x_855 : List UInt8) (x_856 : Int) (x_857 : Int) (x_858 : Int) : Option (List (List UInt8 × Int × Int × Int)) :=
  (cellarerref10_Find (l_854) (x_855)).bind fun a_859 =>
    (iter (cellarerref10_Put_b0 (l_854) (a_859) (x_855) (x_856) (x_857) (x_858)) (Decidable.decide ((0 : Int) ≤ a_859), (0 : Int), [])).bind (fun t_886 =>
      bif !Prod.fst t_886 then
        if (List.length (Prod.snd t_886) + List.length ((fun (x : List (Ty.T (Ty.prod Ty.str (Ty.prod (Ty.int IntKind.i64) (Ty.prod (Ty.int IntKind.i64) (Ty.int IntKind.i64)))))) => x) [(x_855, x_856, x_857, x_858)])) * (40 : Nat) ≤ (17592186044416 : Nat) then
          some (Prod.snd t_886 ++ [(x_855, x_856, x_857, x_858)])
        else none
      else
        some (Prod.snd t_886))

def cellarerref10_Drop_res (r : List (List UInt8 × Int × Int × Int)) : AV := (fun (r_907 : List (List UInt8 × Int × Int × Int)) => AV.view (0 : Nat) (0 : Nat) Option.none) r

def cellarerref10_Drop_out (r : List (List UInt8 × Int × Int × Int)) : List AO := (fun (r_907 : List (List UInt8 × Int × Int × Int)) => [AO.row (Ty.prod Ty.str (Ty.prod (Ty.int IntKind.i64) (Ty.prod (Ty.int IntKind.i64) (Ty.int IntKind.i64)))) r_907]) r

noncomputable def cellarerref10_Drop_b0 (l_899 : List (List UInt8 × Int × Int × Int)) (p_900 : List UInt8) (s_908 : Int × List (List UInt8 × Int × Int × Int)) : Option ((Int × List (List UInt8 × Int × Int × Int)) ⊕ (List (List UInt8 × Int × Int × Int))) :=
  bif Decidable.decide (Prod.fst s_908 < (↑(List.length l_899) : Int)) then
    if (0 : Int) ≤ Prod.fst s_908 ∧ Prod.fst s_908 < (↑(List.length l_899) : Int) then
      bif !Decidable.decide (Prod.fst (List.getD l_899 (Int.toNat (Prod.fst s_908)) ([], (0 : Int), (0 : Int), (0 : Int))) = p_900) then
        if (0 : Int) ≤ Prod.fst s_908 ∧ Prod.fst s_908 < (↑(List.length l_899) : Int) then
          if (List.length (Prod.snd s_908) + List.length ((fun (x : List (Ty.T (Ty.prod Ty.str (Ty.prod (Ty.int IntKind.i64) (Ty.prod (Ty.int IntKind.i64) (Ty.int IntKind.i64)))))) => x) [(Prod.fst (List.getD l_899 (Int.toNat (Prod.fst s_908)) ([], (0 : Int), (0 : Int), (0 : Int))), Prod.fst (Prod.snd (List.getD l_899 (Int.toNat (Prod.fst s_908)) ([], (0 : Int), (0 : Int), (0 : Int)))), Prod.fst (Prod.snd (Prod.snd (List.getD l_899 (Int.toNat (Prod.fst s_908)) ([], (0 : Int), (0 : Int), (0 : Int))))), Prod.snd (Prod.snd (Prod.snd (List.getD l_899 (Int.toNat (Prod.fst s_908)) ([], (0 : Int), (0 : Int), (0 : Int))))))])) * (40 : Nat) ≤ (17592186044416 : Nat) then
            some (Sum.inl (IntKind.wrap IntKind.i64 (Prod.fst s_908 + (1 : Int)), Prod.snd s_908 ++ [(Prod.fst (List.getD l_899 (Int.toNat (Prod.fst s_908)) ([], (0 : Int), (0 : Int), (0 : Int))), Prod.fst (Prod.snd (List.getD l_899 (Int.toNat (Prod.fst s_908)) ([], (0 : Int), (0 : Int), (0 : Int)))), Prod.fst (Prod.snd (Prod.snd (List.getD l_899 (Int.toNat (Prod.fst s_908)) ([], (0 : Int), (0 : Int), (0 : Int))))), Prod.snd (Prod.snd (Prod.snd (List.getD l_899 (Int.toNat (Prod.fst s_908)) ([], (0 : Int), (0 : Int), (0 : Int))))))]))
          else none
        else none
      else
        some (Sum.inl (IntKind.wrap IntKind.i64 (Prod.fst s_908 + (1 : Int)), Prod.snd s_908))
    else none
  else
    some (Sum.inr (Prod.snd s_908))

noncomputable def cellarerref10_Drop (l_894 : List (List UInt8 × Int × Int × Int)) (p_895 : List UInt8) : Option (List (List UInt8 × Int × Int × Int)) :=
  (iter (cellarerref10_Drop_b0 (l_894) (p_895)) ((0 : Int), [])).bind (fun t_904 =>
    some (t_904))

def cellarerlaw10_OversPuts_res (r : Bool) : AV := (fun (r_924 : Bool) => AV.bool r_924) r

def cellarerlaw10_OversPuts_out (r : Bool) : List AO := (fun (r_924 : Bool) => []) r

noncomputable def cellarerlaw10_OversPuts (l_726 : List (List UInt8 × Int × Int × Int)) (x_727 : List UInt8) (x_728 : Int) (x_729 : Int) (x_730 : Int) (p_731 : List UInt8) : Option (Bool) :=
  Option.bind (α := Bool ⊕ Unit) (
    (cellarerlaw10_few (l_726)).bind fun a_732 =>
      bif !a_732 then
        (cellarerlaw10_awake ).bind fun a_733 =>
          some (Sum.inl (a_733))
      else
        (cellarerlaw10_few ([(x_727, x_728, x_729, x_730)])).bind fun a_734 =>
          bif !a_734 then
            (cellarerlaw10_awake ).bind fun a_735 =>
              some (Sum.inl (a_735))
          else
            bif Decidable.decide ((300 : Int) < (↑(List.length p_731) : Int)) then
              (cellarerlaw10_awake ).bind fun a_736 =>
                some (Sum.inl (a_736))
            else
              some (Sum.inr ())) (Sum.elim (fun t_738 =>
    some (t_738)) (fun t_739 =>
    (overs_Put (l_726) (x_727) (x_728) (x_729) (x_730)).bind fun a_802 =>
      (overs_Drop (l_726) (p_731)).bind fun a_853 =>
        Option.bind (α := Unit ⊕ Unit) (
          (cellarerref10_Put (l_726) (x_727) (x_728) (x_729) (x_730)).bind fun a_892 =>
            (cellarerref10_Same (List.drop (0 : Nat) a_802) (List.drop (0 : Nat) a_892)).bind fun a_893 =>
              bif !a_893 then
                some (Sum.inl ())
              else
                (cellarerref10_Drop (l_726) (p_731)).bind fun a_910 =>
                  (cellarerref10_Same (List.drop (0 : Nat) a_853) (List.drop (0 : Nat) a_910)).bind fun a_911 =>
                    bif !a_911 then
                      some (Sum.inl ())
                    else
                      (overs_Find (l_726) (p_731)).bind fun a_912 =>
                        (cellarerref10_Find (l_726) (p_731)).bind fun a_913 =>
                          bif !Decidable.decide (a_912 = a_913) then
                            some (Sum.inl ())
                          else
                            (overs_Right (x_727) (x_728) (x_729) (x_730)).bind fun a_914 =>
                              (cellarerref10_Right (x_727) (x_728) (x_729) (x_730)).bind fun a_915 =>
                                bif !Decidable.decide (a_914 = a_915) then
                                  some (Sum.inl ())
                                else
                                  some (Sum.inr ())) (Sum.elim (fun t_916 =>
          some (Bool.false)) (fun t_917 =>
          (overs_Meta (List.drop (0 : Nat) a_802) (x_727) ((0 : Int)) ((0 : Int)) ((0 : Int))).bind fun a_918 =>
            bif Decidable.decide (Prod.fst a_918 = x_728) && (Decidable.decide (Prod.fst (Prod.snd a_918) = x_729) && Decidable.decide (Prod.snd (Prod.snd a_918) = x_730)) then
              (overs_Find (List.drop (0 : Nat) a_853) (p_731)).bind fun a_919 =>
                bif Decidable.decide (a_919 < (0 : Int)) then
                  (cellarerlaw10_awake ).bind fun a_920 =>
                    some (a_920)
                else
                  some (Bool.false)
            else
              some (Bool.false)))))

end Go.Cellar
