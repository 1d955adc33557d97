/- The program's functions, as plain Lean functions: printed by a program out of the translation. No condition. -/
import Derived.Test.YtapokbncaidgdaaDoorLib19
set_option maxRecDepth 4000
set_option linter.unusedVariables false
namespace Go.Cellar
open Go

def version_digit_res (r : Bool) : AV := (fun (r_3 : Bool) => AV.bool r_3) r

def version_digit_out (r : Bool) : List AO := (fun (r_3 : Bool) => []) r

noncomputable def version_digit (c_1 : Int) : Option (Bool) :=
  bif Decidable.decide ((48 : Int) ≤ c_1) then
    some (Decidable.decide (c_1 ≤ (57 : Int)))
  else
    some (Bool.false)

def version_letter_res (r : Bool) : AV := (fun (r_7 : Bool) => AV.bool r_7) r

def version_letter_out (r : Bool) : List AO := (fun (r_7 : Bool) => []) r

noncomputable def version_letter (c_5 : Int) : Option (Bool) :=
  bif Decidable.decide ((97 : Int) ≤ c_5) then
    bif Decidable.decide (c_5 ≤ (122 : Int)) then
      some (Bool.true)
    else
      bif Decidable.decide ((65 : Int) ≤ c_5) then
        some (Decidable.decide (c_5 ≤ (90 : Int)))
      else
        some (Bool.false)
  else
    bif Decidable.decide ((65 : Int) ≤ c_5) then
      some (Decidable.decide (c_5 ≤ (90 : Int)))
    else
      some (Bool.false)

def stringslite_IndexByte_res (r : Int) : AV := (fun (r_15 : Int) => AV.int IntKind.i64 r_15) r

def stringslite_IndexByte_out (r : Int) : List AO := (fun (r_15 : Int) => []) r

noncomputable def stringslite_IndexByte (s_12 : List UInt8) (c_13 : Int) : Option (Int) :=
  if (0 : Int) ≤ c_13 ∧ c_13 < (256 : Int) then
    some (idxByte c_13 s_12 (0 : Int))
  else none

def strings_IndexByte_res (r : Int) : AV := (fun (r_18 : Int) => AV.int IntKind.i64 r_18) r

def strings_IndexByte_out (r : Int) : List AO := (fun (r_18 : Int) => []) r

noncomputable def strings_IndexByte (s_10 : List UInt8) (c_11 : Int) : Option (Int) :=
  (stringslite_IndexByte (s_10) (c_11)).bind fun a_16 =>
    some (a_16)

def bytealg_LastIndexByteString_res (r : Int) : AV := (fun (r_33 : Int) => AV.int IntKind.i64 r_33) r

def bytealg_LastIndexByteString_out (r : Int) : List AO := (fun (r_33 : Int) => []) r

noncomputable def bytealg_LastIndexByteString_b0 (s_25 : List UInt8) (c_26 : Int) (s_34 : Int) : Option ((Int) ⊕ (Int ⊕ Unit)) :=
  bif Decidable.decide ((0 : Int) ≤ s_34) then
    if (0 : Int) ≤ s_34 ∧ s_34 < (↑(List.length s_25) : Int) then
      bif Decidable.decide ((↑(UInt8.toNat (List.getD s_25 (Int.toNat s_34) (0 : UInt8))) : Int) = c_26) then
        some (Sum.inr (Sum.inl (s_34)))
      else
        some (Sum.inl (IntKind.wrap IntKind.i64 (s_34 - (1 : Int))))
    else none
  else
    some (Sum.inr (Sum.inr ()))

noncomputable def bytealg_LastIndexByteString (s_23 : List UInt8) (c_24 : Int) : Option (Int) :=
  (iter (bytealg_LastIndexByteString_b0 (s_23) (c_24)) (IntKind.wrap IntKind.i64 ((↑(List.length s_23) : Int) - (1 : Int)))).bind (Sum.elim (fun t_29 =>
    some (t_29)) (fun t_30 =>
    some ((-1 : Int))))

def strings_LastIndexByte_res (r : Int) : AV := (fun (r_38 : Int) => AV.int IntKind.i64 r_38) r

def strings_LastIndexByte_out (r : Int) : List AO := (fun (r_38 : Int) => []) r

noncomputable def strings_LastIndexByte (s_21 : List UInt8) (c_22 : Int) : Option (Int) :=
  (bytealg_LastIndexByteString (s_21) (c_22)).bind fun a_36 =>
    some (a_36)

def version_only_res (r : Bool) : AV := (fun (r_54 : Bool) => AV.bool r_54) r

def version_only_out (r : Bool) : List AO := (fun (r_54 : Bool) => []) r

noncomputable def version_only_b0 (s_43 : List UInt8) (marks_44 : List UInt8) (t_45 : Int) (s_55 : Int) : Option ((Int) ⊕ (Unit ⊕ Unit)) :=
  bif Decidable.decide (s_55 < t_45) then
    if (0 : Int) ≤ s_55 ∧ s_55 < (↑(List.length s_43) : Int) then
      (version_digit ((↑(UInt8.toNat (List.getD s_43 (Int.toNat s_55) (0 : UInt8))) : Int))).bind fun a_47 =>
        bif !a_47 then
          if (0 : Int) ≤ s_55 ∧ s_55 < (↑(List.length s_43) : Int) then
            (version_letter ((↑(UInt8.toNat (List.getD s_43 (Int.toNat s_55) (0 : UInt8))) : Int))).bind fun a_48 =>
              bif !a_48 then
                if (0 : Int) ≤ s_55 ∧ s_55 < (↑(List.length s_43) : Int) then
                  (strings_IndexByte (marks_44) ((↑(UInt8.toNat (List.getD s_43 (Int.toNat s_55) (0 : UInt8))) : Int))).bind fun a_49 =>
                    bif Decidable.decide (a_49 < (0 : Int)) then
                      some (Sum.inr (Sum.inl ()))
                    else
                      some (Sum.inl (IntKind.wrap IntKind.i64 (s_55 + (1 : Int))))
                else none
              else
                some (Sum.inl (IntKind.wrap IntKind.i64 (s_55 + (1 : Int))))
          else none
        else
          some (Sum.inl (IntKind.wrap IntKind.i64 (s_55 + (1 : Int))))
    else none
  else
    some (Sum.inr (Sum.inr ()))

noncomputable def version_only (s_41 : List UInt8) (marks_42 : List UInt8) : Option (Bool) :=
  (iter (version_only_b0 (s_41) (marks_42) ((↑(List.length s_41) : Int))) ((0 : Int))).bind (Sum.elim (fun t_50 =>
    some (Bool.false)) (fun t_51 =>
    some (Bool.true)))

def version_epoch_res (r : Int × Bool) : AV := (fun (r_73 : Int × Bool) => AV.tup [AV.int IntKind.i64 (Prod.fst r_73), AV.bool (Prod.snd r_73)]) r

def version_epoch_out (r : Int × Bool) : List AO := (fun (r_73 : Int × Bool) => []) r

noncomputable def version_epoch_b0 (s_61 : List UInt8) (t_63 : Int) (s_74 : Int × Int) : Option ((Int × Int) ⊕ (Unit ⊕ Int)) :=
  bif Decidable.decide (Prod.snd s_74 < t_63) then
    if (0 : Int) ≤ Prod.snd s_74 ∧ Prod.snd s_74 < (↑(List.length s_61) : Int) then
      (version_digit ((↑(UInt8.toNat (List.getD s_61 (Int.toNat (Prod.snd s_74)) (0 : UInt8))) : Int))).bind fun a_65 =>
        bif !a_65 then
          some (Sum.inr (Sum.inl ()))
        else
          if (0 : Int) ≤ Prod.snd s_74 ∧ Prod.snd s_74 < (↑(List.length s_61) : Int) then
            some (Sum.inl (IntKind.wrap IntKind.i64 (IntKind.wrap IntKind.i64 (Prod.fst s_74 * (10 : Int)) + IntKind.wrap IntKind.i64 (IntKind.wrap IntKind.u8 ((↑(UInt8.toNat (List.getD s_61 (Int.toNat (Prod.snd s_74)) (0 : UInt8))) : Int) - (48 : Int)))), IntKind.wrap IntKind.i64 (Prod.snd s_74 + (1 : Int))))
          else none
    else none
  else
    some (Sum.inr (Sum.inr (Prod.fst s_74)))

noncomputable def version_epoch (s_58 : List UInt8) : Option (Int × Bool) :=
  Option.bind (α := Unit ⊕ Unit) (
    bif Decidable.decide ((↑(List.length s_58) : Int) < (1 : Int)) then
      some (Sum.inl ())
    else
      bif Decidable.decide ((9 : Int) < (↑(List.length s_58) : Int)) then
        some (Sum.inl ())
      else
        some (Sum.inr ())) (Sum.elim (fun t_59 =>
    some ((0 : Int), Bool.false)) (fun t_60 =>
    (iter (version_epoch_b0 (s_58) ((↑(List.length s_58) : Int))) ((0 : Int), (0 : Int))).bind (Sum.elim (fun t_66 =>
      some ((0 : Int), Bool.false)) (fun t_68 =>
      some (t_68, Bool.true)))))

def version_Parse_res (r : Int × List UInt8 × List UInt8 × Int) : AV := (fun (r_98 : Int × List UInt8 × List UInt8 × Int) => AV.tup [AV.agg [AV.int IntKind.i64 (Prod.fst r_98), AV.str (Prod.fst (Prod.snd r_98)), AV.str (Prod.fst (Prod.snd (Prod.snd r_98)))], AV.int IntKind.i64 (Prod.snd (Prod.snd (Prod.snd r_98)))]) r

def version_Parse_out (r : Int × List UInt8 × List UInt8 × Int) : List AO := (fun (r_98 : Int × List UInt8 × List UInt8 × Int) => []) r

noncomputable def version_Parse (s_77 : List UInt8) : Option (Int × List UInt8 × List UInt8 × Int) :=
  bif Decidable.decide ((80 : Int) < (↑(List.length s_77) : Int)) then
    some ((0 : Int), [], [], (8 : Int))
  else
    Option.bind (α := Unit ⊕ List UInt8 × List UInt8 × Int) (
      (strings_IndexByte (s_77) ((58 : Int))).bind fun a_78 =>
        bif Decidable.decide ((0 : Int) ≤ a_78) then
          if (0 : Int) ≤ (0 : Int) ∧ (0 : Int) ≤ a_78 ∧ a_78 ≤ (↑(List.length s_77) : Int) then
            (version_epoch (List.drop (Int.toNat (0 : Int)) (List.take (Int.toNat a_78) s_77))).bind fun a_79 =>
              bif !Prod.snd a_79 then
                some (Sum.inl ())
              else
                if (0 : Int) ≤ IntKind.wrap IntKind.i64 (a_78 + (1 : Int)) ∧ IntKind.wrap IntKind.i64 (a_78 + (1 : Int)) ≤ (↑(List.length s_77) : Int) ∧ (↑(List.length s_77) : Int) ≤ (↑(List.length s_77) : Int) then
                  some (Sum.inr ([(46 : UInt8), (43 : UInt8), (45 : UInt8), (126 : UInt8), (58 : UInt8)], List.drop (Int.toNat (IntKind.wrap IntKind.i64 (a_78 + (1 : Int)))) (List.take (Int.toNat (↑(List.length s_77) : Int)) s_77), Prod.fst a_79))
                else none
          else none
        else
          some (Sum.inr ([(46 : UInt8), (43 : UInt8), (45 : UInt8), (126 : UInt8)], s_77, (0 : Int)))) (Sum.elim (fun t_80 =>
      some ((0 : Int), [], [], (2 : Int))) (fun t_84 =>
      Option.bind (α := List UInt8 × List UInt8) (
        (strings_LastIndexByte (Prod.fst (Prod.snd t_84)) ((45 : Int))).bind fun a_85 =>
          bif Decidable.decide ((0 : Int) ≤ a_85) then
            if (0 : Int) ≤ (0 : Int) ∧ (0 : Int) ≤ a_85 ∧ a_85 ≤ (↑(List.length (Prod.fst (Prod.snd t_84))) : Int) then
              if (0 : Int) ≤ IntKind.wrap IntKind.i64 (a_85 + (1 : Int)) ∧ IntKind.wrap IntKind.i64 (a_85 + (1 : Int)) ≤ (↑(List.length (Prod.fst (Prod.snd t_84))) : Int) ∧ (↑(List.length (Prod.fst (Prod.snd t_84))) : Int) ≤ (↑(List.length (Prod.fst (Prod.snd t_84))) : Int) then
                some (List.drop (Int.toNat (0 : Int)) (List.take (Int.toNat a_85) (Prod.fst (Prod.snd t_84))), List.drop (Int.toNat (IntKind.wrap IntKind.i64 (a_85 + (1 : Int)))) (List.take (Int.toNat (↑(List.length (Prod.fst (Prod.snd t_84))) : Int)) (Prod.fst (Prod.snd t_84))))
              else none
            else none
          else
            some (Prod.fst (Prod.snd t_84), [(48 : UInt8)])) (fun t_88 =>
        bif Decidable.decide (Prod.fst t_88 = []) then
          some ((0 : Int), [], [], (2 : Int))
        else
          if (0 : Int) ≤ (0 : Int) ∧ (0 : Int) < (↑(List.length (Prod.fst t_88)) : Int) then
            (version_digit ((↑(UInt8.toNat (List.getD (Prod.fst t_88) (Int.toNat (0 : Int)) (0 : UInt8))) : Int))).bind fun a_89 =>
              bif !a_89 then
                some ((0 : Int), [], [], (2 : Int))
              else
                (version_only (Prod.fst t_88) (Prod.fst t_84)).bind fun a_90 =>
                  bif !a_90 then
                    some ((0 : Int), [], [], (2 : Int))
                  else
                    bif Decidable.decide (Prod.snd t_88 = []) then
                      some ((0 : Int), [], [], (2 : Int))
                    else
                      (version_only (Prod.snd t_88) ([(46 : UInt8), (43 : UInt8), (126 : UInt8)])).bind fun a_91 =>
                        bif !a_91 then
                          some ((0 : Int), [], [], (2 : Int))
                        else
                          some (Prod.snd (Prod.snd t_84), Prod.fst t_88, Prod.snd t_88, (0 : Int))
          else none)))

def path_Name_res (r : Bool) : AV := (fun (r_114 : Bool) => AV.bool r_114) r

def path_Name_out (r : Bool) : List AO := (fun (r_114 : Bool) => []) r

noncomputable def path_Name_b0 (s_103 : List UInt8) (t_104 : Int) (s_115 : Int) : Option ((Int) ⊕ (Unit ⊕ Unit)) :=
  bif Decidable.decide (s_115 < t_104) then
    if (0 : Int) ≤ s_115 ∧ s_115 < (↑(List.length s_103) : Int) then
      Option.bind (α := Bool) (
        bif Decidable.decide ((97 : Int) ≤ (↑(UInt8.toNat (List.getD s_103 (Int.toNat s_115) (0 : UInt8))) : Int)) then
          bif Decidable.decide ((↑(UInt8.toNat (List.getD s_103 (Int.toNat s_115) (0 : UInt8))) : Int) ≤ (122 : Int)) then
            some (Bool.true)
          else
            bif Decidable.decide ((48 : Int) ≤ (↑(UInt8.toNat (List.getD s_103 (Int.toNat s_115) (0 : UInt8))) : Int)) then
              some (Decidable.decide ((↑(UInt8.toNat (List.getD s_103 (Int.toNat s_115) (0 : UInt8))) : Int) ≤ (57 : Int)))
            else
              some (Bool.false)
        else
          bif Decidable.decide ((48 : Int) ≤ (↑(UInt8.toNat (List.getD s_103 (Int.toNat s_115) (0 : UInt8))) : Int)) then
            some (Decidable.decide ((↑(UInt8.toNat (List.getD s_103 (Int.toNat s_115) (0 : UInt8))) : Int) ≤ (57 : Int)))
          else
            some (Bool.false)) (fun t_107 =>
        bif !t_107 then
          bif Decidable.decide (s_115 = (0 : Int)) then
            some (Sum.inr (Sum.inl ()))
          else
            bif !Decidable.decide ((↑(UInt8.toNat (List.getD s_103 (Int.toNat s_115) (0 : UInt8))) : Int) = (43 : Int)) then
              bif !Decidable.decide ((↑(UInt8.toNat (List.getD s_103 (Int.toNat s_115) (0 : UInt8))) : Int) = (45 : Int)) then
                bif !Decidable.decide ((↑(UInt8.toNat (List.getD s_103 (Int.toNat s_115) (0 : UInt8))) : Int) = (46 : Int)) then
                  some (Sum.inr (Sum.inl ()))
                else
                  some (Sum.inl (IntKind.wrap IntKind.i64 (s_115 + (1 : Int))))
              else
                some (Sum.inl (IntKind.wrap IntKind.i64 (s_115 + (1 : Int))))
            else
              some (Sum.inl (IntKind.wrap IntKind.i64 (s_115 + (1 : Int))))
        else
          some (Sum.inl (IntKind.wrap IntKind.i64 (s_115 + (1 : Int)))))
    else none
  else
    some (Sum.inr (Sum.inr ()))

noncomputable def path_Name (s_100 : List UInt8) : Option (Bool) :=
  Option.bind (α := Unit ⊕ Unit) (
    bif Decidable.decide ((↑(List.length s_100) : Int) = (0 : Int)) then
      some (Sum.inl ())
    else
      bif Decidable.decide ((60 : Int) < (↑(List.length s_100) : Int)) then
        some (Sum.inl ())
      else
        some (Sum.inr ())) (Sum.elim (fun t_101 =>
    some (Bool.false)) (fun t_102 =>
    (iter (path_Name_b0 (s_100) ((↑(List.length s_100) : Int))) ((0 : Int))).bind (Sum.elim (fun t_109 =>
      some (Bool.false)) (fun t_110 =>
      some (Bool.true)))))

def cellarerref02_Name_res (r : Bool) : AV := (fun (r_134 : Bool) => AV.bool r_134) r

def cellarerref02_Name_out (r : Bool) : List AO := (fun (r_134 : Bool) => []) r

noncomputable def cellarerref02_Name_b0 (s_119 : List UInt8) (s_135 : Int) : Option ((Int) ⊕ (Unit ⊕ Unit)) :=
  bif Decidable.decide (s_135 < (↑(List.length s_119) : Int)) then
    if (0 : Int) ≤ s_135 ∧ s_135 < (↑(List.length s_119) : Int) then
      Option.bind (α := Bool) (
        bif Decidable.decide ((97 : Int) ≤ (↑(UInt8.toNat (List.getD s_119 (Int.toNat s_135) (0 : UInt8))) : Int)) then
          some (Decidable.decide ((↑(UInt8.toNat (List.getD s_119 (Int.toNat s_135) (0 : UInt8))) : Int) ≤ (122 : Int)))
        else
          some (Bool.false)) (fun t_122 =>
        Option.bind (α := Bool) (
          bif Decidable.decide ((48 : Int) ≤ (↑(UInt8.toNat (List.getD s_119 (Int.toNat s_135) (0 : UInt8))) : Int)) then
            some (Decidable.decide ((↑(UInt8.toNat (List.getD s_119 (Int.toNat s_135) (0 : UInt8))) : Int) ≤ (57 : Int)))
          else
            some (Bool.false)) (fun t_124 =>
          Option.bind (α := Bool) (
            bif Decidable.decide ((↑(UInt8.toNat (List.getD s_119 (Int.toNat s_135) (0 : UInt8))) : Int) = (43 : Int)) then
              some (Bool.true)
            else
              bif Decidable.decide ((↑(UInt8.toNat (List.getD s_119 (Int.toNat s_135) (0 : UInt8))) : Int) = (45 : Int)) then
                some (Bool.true)
              else
                some (Decidable.decide ((↑(UInt8.toNat (List.getD s_119 (Int.toNat s_135) (0 : UInt8))) : Int) = (46 : Int)))) (fun t_126 =>
            bif !t_122 then
              bif !t_124 then
                bif !t_126 then
                  some (Sum.inr (Sum.inl ()))
                else
                  bif t_126 then
                    bif Decidable.decide (s_135 = (0 : Int)) then
                      some (Sum.inr (Sum.inl ()))
                    else
                      some (Sum.inl (IntKind.wrap IntKind.i64 (s_135 + (1 : Int))))
                  else
                    some (Sum.inl (IntKind.wrap IntKind.i64 (s_135 + (1 : Int))))
              else
                bif t_126 then
                  bif Decidable.decide (s_135 = (0 : Int)) then
                    some (Sum.inr (Sum.inl ()))
                  else
                    some (Sum.inl (IntKind.wrap IntKind.i64 (s_135 + (1 : Int))))
                else
                  some (Sum.inl (IntKind.wrap IntKind.i64 (s_135 + (1 : Int))))
            else
              bif t_126 then
                bif Decidable.decide (s_135 = (0 : Int)) then
                  some (Sum.inr (Sum.inl ()))
                else
                  some (Sum.inl (IntKind.wrap IntKind.i64 (s_135 + (1 : Int))))
              else
                some (Sum.inl (IntKind.wrap IntKind.i64 (s_135 + (1 : Int)))))))
    else none
  else
    some (Sum.inr (Sum.inr ()))

noncomputable def cellarerref02_Name (s_118 : List UInt8) : Option (Bool) :=
  (iter (cellarerref02_Name_b0 (s_118)) ((0 : Int))).bind (Sum.elim (fun t_130 =>
    some (Bool.false)) (fun t_131 =>
    bif Decidable.decide ((1 : Int) ≤ (↑(List.length s_118) : Int)) then
      some (Decidable.decide ((↑(List.length s_118) : Int) ≤ (60 : Int)))
    else
      some (Bool.false)))

def stringslite_HasPrefix_res (r : Bool) : AV := (fun (r_142 : Bool) => AV.bool r_142) r

def stringslite_HasPrefix_out (r : Bool) : List AO := (fun (r_142 : Bool) => []) r

noncomputable def stringslite_HasPrefix (s_139 : List UInt8) (prefix_140 : List UInt8) : Option (Bool) :=
  bif Decidable.decide ((↑(List.length prefix_140) : Int) ≤ (↑(List.length s_139) : Int)) then
    if (0 : Int) ≤ (0 : Int) ∧ (0 : Int) ≤ (↑(List.length prefix_140) : Int) ∧ (↑(List.length prefix_140) : Int) ≤ (↑(List.length s_139) : Int) then
      some (Decidable.decide (List.drop (Int.toNat (0 : Int)) (List.take (Int.toNat (↑(List.length prefix_140) : Int)) s_139) = prefix_140))
    else none
  else
    some (Bool.false)

def strings_HasPrefix_res (r : Bool) : AV := (fun (r_149 : Bool) => AV.bool r_149) r

def strings_HasPrefix_out (r : Bool) : List AO := (fun (r_149 : Bool) => []) r

noncomputable def strings_HasPrefix (s_145 : List UInt8) (prefix_146 : List UInt8) : Option (Bool) :=
  (stringslite_HasPrefix (s_145) (prefix_146)).bind fun a_147 =>
    some (a_147)

def stringslite_HasSuffix_res (r : Bool) : AV := (fun (r_155 : Bool) => AV.bool r_155) r

def stringslite_HasSuffix_out (r : Bool) : List AO := (fun (r_155 : Bool) => []) r

noncomputable def stringslite_HasSuffix (s_152 : List UInt8) (suffix_153 : List UInt8) : Option (Bool) :=
  bif Decidable.decide ((↑(List.length suffix_153) : Int) ≤ (↑(List.length s_152) : Int)) then
    if (0 : Int) ≤ IntKind.wrap IntKind.i64 ((↑(List.length s_152) : Int) - (↑(List.length suffix_153) : Int)) ∧ IntKind.wrap IntKind.i64 ((↑(List.length s_152) : Int) - (↑(List.length suffix_153) : Int)) ≤ (↑(List.length s_152) : Int) ∧ (↑(List.length s_152) : Int) ≤ (↑(List.length s_152) : Int) then
      some (Decidable.decide (List.drop (Int.toNat (IntKind.wrap IntKind.i64 ((↑(List.length s_152) : Int) - (↑(List.length suffix_153) : Int)))) (List.take (Int.toNat (↑(List.length s_152) : Int)) s_152) = suffix_153))
    else none
  else
    some (Bool.false)

def strings_HasSuffix_res (r : Bool) : AV := (fun (r_162 : Bool) => AV.bool r_162) r

def strings_HasSuffix_out (r : Bool) : List AO := (fun (r_162 : Bool) => []) r

noncomputable def strings_HasSuffix (s_158 : List UInt8) (suffix_159 : List UInt8) : Option (Bool) :=
  (stringslite_HasSuffix (s_158) (suffix_159)).bind fun a_160 =>
    some (a_160)

def path_Join_res (r : List UInt8) : AV := (fun (r_169 : List UInt8) => AV.str r_169) r

def path_Join_out (r : List UInt8) : List AO := (fun (r_169 : List UInt8) => []) r

noncomputable def path_Join (dir_165 : List UInt8) (name_166 : List UInt8) : Option (List UInt8) :=
  (strings_HasSuffix (dir_165) ([(47 : UInt8)])).bind fun a_167 =>
    bif a_167 then
      if List.length dir_165 + List.length name_166 ≤ (140737488355328 : Nat) then
        some (dir_165 ++ name_166)
      else none
    else
      if List.length dir_165 + List.length ((fun (x : List UInt8) => x) [(47 : UInt8)]) ≤ (140737488355328 : Nat) then
        if List.length (dir_165 ++ [(47 : UInt8)]) + List.length name_166 ≤ (140737488355328 : Nat) then
          some (dir_165 ++ [(47 : UInt8)] ++ name_166)
        else none
      else none

def path_Under_res (r : Bool) : AV := (fun (r_177 : Bool) => AV.bool r_177) r

def path_Under_out (r : Bool) : List AO := (fun (r_177 : Bool) => []) r

noncomputable def path_Under (dir_172 : List UInt8) (s_173 : List UInt8) : Option (Bool) :=
  (path_Join (dir_172) ([])).bind fun a_174 =>
    (strings_HasPrefix (s_173) (a_174)).bind fun a_175 =>
      bif a_175 then
        some (Decidable.decide ((↑(List.length a_174) : Int) < (↑(List.length s_173) : Int)))
      else
        some (Bool.false)

def cellarerref02_Under_res (r : Bool) : AV := (fun (r_186 : Bool) => AV.bool r_186) r

def cellarerref02_Under_out (r : Bool) : List AO := (fun (r_186 : Bool) => []) r

noncomputable def cellarerref02_Under (dir_180 : List UInt8) (s_181 : List UInt8) : Option (Bool) :=
  if List.length dir_180 + List.length ((fun (x : List UInt8) => x) [(47 : UInt8)]) ≤ (140737488355328 : Nat) then
    Option.bind (α := List UInt8) (
      bif Decidable.decide ((0 : Int) < (↑(List.length dir_180) : Int)) then
        if (0 : Int) ≤ IntKind.wrap IntKind.i64 ((↑(List.length dir_180) : Int) - (1 : Int)) ∧ IntKind.wrap IntKind.i64 ((↑(List.length dir_180) : Int) - (1 : Int)) < (↑(List.length dir_180) : Int) then
          bif Decidable.decide ((↑(UInt8.toNat (List.getD dir_180 (Int.toNat (IntKind.wrap IntKind.i64 ((↑(List.length dir_180) : Int) - (1 : Int)))) (0 : UInt8))) : Int) = (47 : Int)) then
            some (dir_180)
          else
            some (dir_180 ++ [(47 : UInt8)])
        else none
      else
        some (dir_180 ++ [(47 : UInt8)])) (fun t_183 =>
      bif Decidable.decide ((↑(List.length t_183) : Int) < (↑(List.length s_181) : Int)) then
        if (0 : Int) ≤ (0 : Int) ∧ (0 : Int) ≤ (↑(List.length t_183) : Int) ∧ (↑(List.length t_183) : Int) ≤ (↑(List.length s_181) : Int) then
          some (Decidable.decide (List.drop (Int.toNat (0 : Int)) (List.take (Int.toNat (↑(List.length t_183) : Int)) s_181) = t_183))
        else none
      else
        some (Bool.false))
  else none

def cellarerref19_Ends_res (r : Bool) : AV := (fun (r_192 : Bool) => AV.bool r_192) r

def cellarerref19_Ends_out (r : Bool) : List AO := (fun (r_192 : Bool) => []) r

noncomputable def cellarerref19_Ends (s_189 : List UInt8) (end_190 : List UInt8) : Option (Bool) :=
  bif Decidable.decide ((↑(List.length end_190) : Int) ≤ (↑(List.length s_189) : Int)) then
    if (0 : Int) ≤ IntKind.wrap IntKind.i64 ((↑(List.length s_189) : Int) - (↑(List.length end_190) : Int)) ∧ IntKind.wrap IntKind.i64 ((↑(List.length s_189) : Int) - (↑(List.length end_190) : Int)) ≤ (↑(List.length s_189) : Int) ∧ (↑(List.length s_189) : Int) ≤ (↑(List.length s_189) : Int) then
      some (Decidable.decide (List.drop (Int.toNat (IntKind.wrap IntKind.i64 ((↑(List.length s_189) : Int) - (↑(List.length end_190) : Int)))) (List.take (Int.toNat (↑(List.length s_189) : Int)) s_189) = end_190))
    else none
  else
    some (Bool.false)

def path_plain_res (r : Bool) : AV := (fun (r_205 : Bool) => AV.bool r_205) r

def path_plain_out (r : Bool) : List AO := (fun (r_205 : Bool) => []) r

noncomputable def path_plain_b0 (s_197 : List UInt8) (t_198 : Int) (s_206 : Int) : Option ((Int) ⊕ (Unit ⊕ Unit)) :=
  bif Decidable.decide (s_206 < t_198) then
    if (0 : Int) ≤ s_206 ∧ s_206 < (↑(List.length s_197) : Int) then
      bif Decidable.decide ((↑(UInt8.toNat (List.getD s_197 (Int.toNat s_206) (0 : UInt8))) : Int) < (33 : Int)) then
        some (Sum.inr (Sum.inl ()))
      else
        if (0 : Int) ≤ s_206 ∧ s_206 < (↑(List.length s_197) : Int) then
          bif Decidable.decide ((126 : Int) < (↑(UInt8.toNat (List.getD s_197 (Int.toNat s_206) (0 : UInt8))) : Int)) then
            some (Sum.inr (Sum.inl ()))
          else
            some (Sum.inl (IntKind.wrap IntKind.i64 (s_206 + (1 : Int))))
        else none
    else none
  else
    some (Sum.inr (Sum.inr ()))

noncomputable def path_plain (s_196 : List UInt8) : Option (Bool) :=
  (iter (path_plain_b0 (s_196) ((↑(List.length s_196) : Int))) ((0 : Int))).bind (Sum.elim (fun t_200 =>
    some (Bool.false)) (fun t_201 =>
    (strings_HasPrefix (s_196) ([(47 : UInt8)])).bind fun a_202 =>
      some (a_202)))

def stringslite_Index_res (r : Int) : AV := (fun (r_245 : Int) => AV.int IntKind.i64 r_245) r

def stringslite_Index_out (r : Int) : List AO := (fun (r_245 : Int) => []) r

noncomputable def stringslite_Index (s_238 : List UInt8) (substr_239 : List UInt8) : Option (Int) :=
  Option.bind (α := Int) (
    bif Decidable.decide ((↑(List.length substr_239) : Int) = (0 : Int)) then
      some ((0 : Int))
    else
      bif Decidable.decide (substr_239 = s_238) then
        some ((0 : Int))
      else
        bif Decidable.decide ((↑(List.length substr_239) : Int) = (1 : Int)) then
          if (0 : Int) ≤ (0 : Int) ∧ (0 : Int) < (↑(List.length substr_239) : Int) then
            (stringslite_IndexByte (s_238) ((↑(UInt8.toNat (List.getD substr_239 (Int.toNat (0 : Int)) (0 : UInt8))) : Int))).bind fun a_240 =>
              some (a_240)
          else none
        else
          bif Decidable.decide ((↑(List.length s_238) : Int) ≤ (↑(List.length substr_239) : Int)) then
            some ((-1 : Int))
          else
            none) (fun t_242 =>
    some (t_242))

def strings_Index_res (r : Int) : AV := (fun (r_248 : Int) => AV.int IntKind.i64 r_248) r

def strings_Index_out (r : Int) : List AO := (fun (r_248 : Int) => []) r

noncomputable def strings_Index (s_233 : List UInt8) (substr_234 : List UInt8) : Option (Int) :=
  (stringslite_Index (s_233) (substr_234)).bind fun a_246 =>
    some (a_246)

def strings_Count_res (r : Int) : AV := (fun (r_254 : Int) => AV.int IntKind.i64 r_254) r

def strings_Count_out (r : Int) : List AO := (fun (r_254 : Int) => []) r

noncomputable def strings_Count_b0 (substr_231 : List UInt8) (s_255 : List UInt8 × Int) : Option ((List UInt8 × Int) ⊕ (Int)) :=
  (strings_Index (Prod.fst s_255) (substr_231)).bind fun a_249 =>
    bif Decidable.decide (a_249 = (-1 : Int)) then
      some (Sum.inr (Prod.snd s_255))
    else
      if (0 : Int) ≤ IntKind.wrap IntKind.i64 (a_249 + (↑(List.length substr_231) : Int)) ∧ IntKind.wrap IntKind.i64 (a_249 + (↑(List.length substr_231) : Int)) ≤ (↑(List.length (Prod.fst s_255)) : Int) ∧ (↑(List.length (Prod.fst s_255)) : Int) ≤ (↑(List.length (Prod.fst s_255)) : Int) then
        some (Sum.inl (List.drop (Int.toNat (IntKind.wrap IntKind.i64 (a_249 + (↑(List.length substr_231) : Int)))) (List.take (Int.toNat (↑(List.length (Prod.fst s_255)) : Int)) (Prod.fst s_255)), IntKind.wrap IntKind.i64 (Prod.snd s_255 + (1 : Int))))
      else none

noncomputable def strings_Count (s_228 : List UInt8) (substr_229 : List UInt8) : Option (Int) :=
  bif Decidable.decide ((↑(List.length substr_229) : Int) = (0 : Int)) then
    none
  else
    bif Decidable.decide ((↑(List.length substr_229) : Int) = (1 : Int)) then
      if (0 : Int) ≤ (0 : Int) ∧ (0 : Int) < (↑(List.length substr_229) : Int) then
        some ((↑(List.count (Nat.toUInt8 (Int.toNat (↑(UInt8.toNat (List.getD substr_229 (Int.toNat (0 : Int)) (0 : UInt8))) : Int))) s_228) : Int))
      else none
    else
      (iter (strings_Count_b0 (substr_229)) (s_228, (0 : Int))).bind (fun t_251 =>
        some (t_251))

def strings_genSplit_res (r : List (List UInt8)) : AV := (fun (r_274 : List (List UInt8)) => AV.view (0 : Nat) (0 : Nat) Option.none) r

def strings_genSplit_out (r : List (List UInt8)) : List AO := (fun (r_274 : List (List UInt8)) => [AO.row Ty.str r_274]) r

noncomputable def strings_genSplit_b0 (sep_261 : List UInt8) (sepSave_262 : Int) (n_263 : Int) (s_275 : List UInt8 × Int × List (List UInt8)) : Option ((List UInt8 × Int × List (List UInt8)) ⊕ (List UInt8 × Int × List (List UInt8))) :=
  bif Decidable.decide (Prod.fst (Prod.snd s_275) < n_263) then
    (strings_Index (Prod.fst s_275) (sep_261)).bind fun a_266 =>
      bif Decidable.decide (a_266 < (0 : Int)) then
        some (Sum.inr (Prod.fst s_275, Prod.fst (Prod.snd s_275), Prod.snd (Prod.snd s_275)))
      else
        if (0 : Int) ≤ (0 : Int) ∧ (0 : Int) ≤ IntKind.wrap IntKind.i64 (a_266 + sepSave_262) ∧ IntKind.wrap IntKind.i64 (a_266 + sepSave_262) ≤ (↑(List.length (Prod.fst s_275)) : Int) then
          if (0 : Int) ≤ Prod.fst (Prod.snd s_275) ∧ Prod.fst (Prod.snd s_275) + (↑(0 : Nat) : Int) < (↑(List.length (Prod.snd (Prod.snd s_275))) : Int) then
            if (0 : Nat) + Int.toNat (Prod.fst (Prod.snd s_275)) < List.length (Prod.snd (Prod.snd s_275)) then
              if (0 : Int) ≤ IntKind.wrap IntKind.i64 (a_266 + (↑(List.length sep_261) : Int)) ∧ IntKind.wrap IntKind.i64 (a_266 + (↑(List.length sep_261) : Int)) ≤ (↑(List.length (Prod.fst s_275)) : Int) ∧ (↑(List.length (Prod.fst s_275)) : Int) ≤ (↑(List.length (Prod.fst s_275)) : Int) then
                some (Sum.inl (List.drop (Int.toNat (IntKind.wrap IntKind.i64 (a_266 + (↑(List.length sep_261) : Int)))) (List.take (Int.toNat (↑(List.length (Prod.fst s_275)) : Int)) (Prod.fst s_275)), IntKind.wrap IntKind.i64 (Prod.fst (Prod.snd s_275) + (1 : Int)), List.set (Prod.snd (Prod.snd s_275)) ((0 : Nat) + Int.toNat (Prod.fst (Prod.snd s_275))) (List.drop (Int.toNat (0 : Int)) (List.take (Int.toNat (IntKind.wrap IntKind.i64 (a_266 + sepSave_262))) (Prod.fst s_275)))))
              else none
            else none
          else none
        else none
  else
    some (Sum.inr (Prod.fst s_275, Prod.fst (Prod.snd s_275), Prod.snd (Prod.snd s_275)))

noncomputable def strings_genSplit (s_222 : List UInt8) (sep_223 : List UInt8) (sepSave_224 : Int) (n_225 : Int) : Option (List (List UInt8)) :=
  bif Decidable.decide (n_225 = (0 : Int)) then
    some ([])
  else
    bif Decidable.decide (sep_223 = []) then
      none
    else
      Option.bind (α := Int) (
        bif Decidable.decide (n_225 < (0 : Int)) then
          (strings_Count (s_222) (sep_223)).bind fun a_257 =>
            some (IntKind.wrap IntKind.i64 (a_257 + (1 : Int)))
        else
          some (n_225)) (fun t_259 =>
        if ((0 : Int) ≤ if IntKind.wrap IntKind.i64 ((↑(List.length s_222) : Int) + (1 : Int)) < t_259 then IntKind.wrap IntKind.i64 ((↑(List.length s_222) : Int) + (1 : Int)) else t_259) ∧ ((if IntKind.wrap IntKind.i64 ((↑(List.length s_222) : Int) + (1 : Int)) < t_259 then IntKind.wrap IntKind.i64 ((↑(List.length s_222) : Int) + (1 : Int)) else t_259) ≤ if IntKind.wrap IntKind.i64 ((↑(List.length s_222) : Int) + (1 : Int)) < t_259 then IntKind.wrap IntKind.i64 ((↑(List.length s_222) : Int) + (1 : Int)) else t_259) ∧ (if IntKind.wrap IntKind.i64 ((↑(List.length s_222) : Int) + (1 : Int)) < t_259 then IntKind.wrap IntKind.i64 ((↑(List.length s_222) : Int) + (1 : Int)) else t_259) ≤ (140737488355328 : Int) ∧ ((↑(16 : Nat) : Int) * if IntKind.wrap IntKind.i64 ((↑(List.length s_222) : Int) + (1 : Int)) < t_259 then IntKind.wrap IntKind.i64 ((↑(List.length s_222) : Int) + (1 : Int)) else t_259) ≤ (140737488355328 : Int) then
          (iter (strings_genSplit_b0 (sep_223) (sepSave_224) (IntKind.wrap IntKind.i64 ((if IntKind.wrap IntKind.i64 ((↑(List.length s_222) : Int) + (1 : Int)) < t_259 then IntKind.wrap IntKind.i64 ((↑(List.length s_222) : Int) + (1 : Int)) else t_259) - (1 : Int)))) (s_222, (0 : Int), List.replicate (Int.toNat (if IntKind.wrap IntKind.i64 ((↑(List.length s_222) : Int) + (1 : Int)) < t_259 then IntKind.wrap IntKind.i64 ((↑(List.length s_222) : Int) + (1 : Int)) else t_259)) [])).bind (fun t_270 =>
            if (0 : Int) ≤ Prod.fst (Prod.snd t_270) ∧ Prod.fst (Prod.snd t_270) + (↑(0 : Nat) : Int) < (↑(List.length (Prod.snd (Prod.snd t_270))) : Int) then
              if (0 : Nat) + Int.toNat (Prod.fst (Prod.snd t_270)) < List.length (Prod.snd (Prod.snd t_270)) then
                if (0 : Int) ≤ (0 : Int) ∧ (0 : Int) ≤ IntKind.wrap IntKind.i64 (Prod.fst (Prod.snd t_270) + (1 : Int)) ∧ (↑(0 : Nat) : Int) + IntKind.wrap IntKind.i64 (Prod.fst (Prod.snd t_270) + (1 : Int)) ≤ (↑(List.length (List.set (Prod.snd (Prod.snd t_270)) ((0 : Nat) + Int.toNat (Prod.fst (Prod.snd t_270))) (Prod.fst t_270))) : Int) then
                  some (List.take ((0 : Nat) + Int.toNat (IntKind.wrap IntKind.i64 (Prod.fst (Prod.snd t_270) + (1 : Int)))) (List.set (Prod.snd (Prod.snd t_270)) ((0 : Nat) + Int.toNat (Prod.fst (Prod.snd t_270))) (Prod.fst t_270)))
                else none
              else none
            else none)
        else none)

def strings_Split_res (r : List (List UInt8)) : AV := (fun (r_279 : List (List UInt8)) => AV.view (0 : Nat) (0 : Nat) Option.none) r

def strings_Split_out (r : List (List UInt8)) : List AO := (fun (r_279 : List (List UInt8)) => [AO.row Ty.str r_279]) r

noncomputable def strings_Split (s_210 : List UInt8) (sep_211 : List UInt8) : Option (List (List UInt8)) :=
  (strings_genSplit (s_210) (sep_211) ((0 : Int)) ((-1 : Int))).bind fun a_277 =>
    some (a_277)

def path_Parts_1_res (r : Bool) : AV := (fun (r_287 : Bool) => AV.bool r_287) r

def path_Parts_1_out (r : Bool) : List AO := (fun (r_287 : Bool) => []) r

noncomputable def path_Parts_1 (p_285 : List UInt8) : Option (Bool) :=
  some (!Decidable.decide (p_285 = []))

def path_keep_string__res (r : List (List UInt8)) : AV := (fun (r_298 : List (List UInt8)) => AV.view (0 : Nat) (0 : Nat) Option.none) r

def path_keep_string__out (r : List (List UInt8)) : List AO := (fun (r_298 : List (List UInt8)) => [AO.row Ty.str r_298]) r

noncomputable def path_keep_string__b0 (t_289 : List (List UInt8)) (t_290 : Int) (s_299 : Int × List (List UInt8)) : Option ((Int × List (List UInt8)) ⊕ (List (List UInt8))) :=
  bif Decidable.decide (Prod.fst s_299 < t_290) then
    if (0 : Int) ≤ Prod.fst s_299 ∧ Prod.fst s_299 < (↑(List.length t_289) : Int) then
      (path_Parts_1 (List.getD t_289 (Int.toNat (Prod.fst s_299)) [])).bind fun a_293 =>
        bif a_293 then
          if (List.length (Prod.snd s_299) + List.length (List.drop (0 : Nat) [List.getD t_289 (Int.toNat (Prod.fst s_299)) []])) * (16 : Nat) ≤ (17592186044416 : Nat) then
            some (Sum.inl (IntKind.wrap IntKind.i64 (Prod.fst s_299 + (1 : Int)), Prod.snd s_299 ++ List.drop (0 : Nat) [List.getD t_289 (Int.toNat (Prod.fst s_299)) []]))
          else none
        else
          some (Sum.inl (IntKind.wrap IntKind.i64 (Prod.fst s_299 + (1 : Int)), Prod.snd s_299))
    else none
  else
    some (Sum.inr (Prod.snd s_299))

noncomputable def path_keep_string_ (l_281 : List (List UInt8)) : Option (List (List UInt8)) :=
  (iter (path_keep_string__b0 (l_281) ((↑(List.length l_281) : Int))) ((0 : Int), [])).bind (fun t_295 =>
    some (t_295))

def path_Parts_res (r : List (List UInt8)) : AV := (fun (r_303 : List (List UInt8)) => AV.view (0 : Nat) (0 : Nat) Option.none) r

def path_Parts_out (r : List (List UInt8)) : List AO := (fun (r_303 : List (List UInt8)) => [AO.row Ty.str r_303]) r

noncomputable def path_Parts (s_209 : List UInt8) : Option (List (List UInt8)) :=
  (strings_Split (s_209) ([(47 : UInt8)])).bind fun a_280 =>
    (path_keep_string_ (List.drop (0 : Nat) a_280)).bind fun a_301 =>
      some (a_301)

def path_Clean_res (r : List UInt8 × Int) : AV := (fun (r_318 : List UInt8 × Int) => AV.tup [AV.str (Prod.fst r_318), AV.int IntKind.i64 (Prod.snd r_318)]) r

def path_Clean_out (r : List UInt8 × Int) : List AO := (fun (r_318 : List UInt8 × Int) => []) r

noncomputable def path_Clean_b0 (t_308 : Int) (o1_311 : List (List UInt8)) (s_319 : Int × List (List UInt8)) : Option ((Int × List (List UInt8)) ⊕ (List (List UInt8))) :=
  bif Decidable.decide (Prod.fst s_319 < t_308) then
    if (0 : Int) ≤ Prod.fst s_319 ∧ Prod.fst s_319 + (↑(0 : Nat) : Int) < (↑(List.length o1_311) : Int) then
      if (0 : Nat) + Int.toNat (Prod.fst s_319) < List.length o1_311 then
        bif Decidable.decide (List.getD o1_311 ((0 : Nat) + Int.toNat (Prod.fst s_319)) [] = [(46 : UInt8)]) then
          some (Sum.inl (IntKind.wrap IntKind.i64 (Prod.fst s_319 + (1 : Int)), Prod.snd s_319))
        else
          bif Decidable.decide (List.getD o1_311 ((0 : Nat) + Int.toNat (Prod.fst s_319)) [] = [(46 : UInt8), (46 : UInt8)]) then
            if (0 : Int) ≤ (0 : Int) ∧ (0 : Int) ≤ IntKind.wrap IntKind.i64 ((if (1 : Int) > (↑(List.length (Prod.snd s_319)) : Int) - (↑(0 : Nat) : Int) then (1 : Int) else (↑(List.length (Prod.snd s_319)) : Int) - (↑(0 : Nat) : Int)) - (1 : Int)) ∧ (↑(0 : Nat) : Int) + IntKind.wrap IntKind.i64 ((if (1 : Int) > (↑(List.length (Prod.snd s_319)) : Int) - (↑(0 : Nat) : Int) then (1 : Int) else (↑(List.length (Prod.snd s_319)) : Int) - (↑(0 : Nat) : Int)) - (1 : Int)) ≤ (↑(List.length (Prod.snd s_319)) : Int) then
              some (Sum.inl (IntKind.wrap IntKind.i64 (Prod.fst s_319 + (1 : Int)), List.take ((0 : Nat) + Int.toNat (IntKind.wrap IntKind.i64 ((if (1 : Int) > (↑(List.length (Prod.snd s_319)) : Int) - (↑(0 : Nat) : Int) then (1 : Int) else (↑(List.length (Prod.snd s_319)) : Int) - (↑(0 : Nat) : Int)) - (1 : Int)))) (Prod.snd s_319)))
            else none
          else
            if (List.length (Prod.snd s_319) + List.length (List.drop (0 : Nat) [List.getD o1_311 ((0 : Nat) + Int.toNat (Prod.fst s_319)) []])) * (16 : Nat) ≤ (17592186044416 : Nat) then
              some (Sum.inl (IntKind.wrap IntKind.i64 (Prod.fst s_319 + (1 : Int)), Prod.snd s_319 ++ List.drop (0 : Nat) [List.getD o1_311 ((0 : Nat) + Int.toNat (Prod.fst s_319)) []]))
            else none
      else none
    else none
  else
    some (Sum.inr (Prod.snd s_319))

noncomputable def path_Clean (s_195 : List UInt8) : Option (List UInt8 × Int) :=
  (path_plain (s_195)).bind fun a_208 =>
    bif !a_208 then
      some ([], (1 : Int))
    else
      (path_Parts (s_195)).bind fun a_304 =>
        (iter (path_Clean_b0 ((↑(List.length a_304) : Int) - (↑(0 : Nat) : Int)) (a_304)) ((0 : Int), [])).bind (fun t_313 =>
          (strings_Join (List.drop (0 : Nat) t_313) ([(47 : UInt8)])).bind fun a_314 =>
            if List.length ((fun (x : List UInt8) => x) [(47 : UInt8)]) + List.length a_314 ≤ (140737488355328 : Nat) then
              bif Decidable.decide ((200 : Int) < (↑(List.length ([(47 : UInt8)] ++ a_314)) : Int)) then
                some ([], (8 : Int))
              else
                some ([(47 : UInt8)] ++ a_314, (0 : Int))
            else none)

def path_Right_res (r : Bool) : AV := (fun (r_323 : Bool) => AV.bool r_323) r

def path_Right_out (r : Bool) : List AO := (fun (r_323 : Bool) => []) r

noncomputable def path_Right (s_194 : List UInt8) : Option (Bool) :=
  (path_Clean (s_194)).bind fun a_321 =>
    bif Decidable.decide (Prod.snd a_321 = (0 : Int)) then
      some (Decidable.decide (Prod.fst a_321 = s_194))
    else
      some (Bool.false)

def cellarerref02_Parts_res (r : List (List UInt8)) : AV := (fun (r_346 : List (List UInt8)) => AV.view (0 : Nat) (0 : Nat) Option.none) r

def cellarerref02_Parts_out (r : List (List UInt8)) : List AO := (fun (r_346 : List (List UInt8)) => [AO.row Ty.str r_346]) r

noncomputable def cellarerref02_Parts_b0 (s_337 : List UInt8) (s_347 : List UInt8 × Int × List (List UInt8)) : Option ((List UInt8 × Int × List (List UInt8)) ⊕ (List UInt8 × List (List UInt8))) :=
  bif Decidable.decide (Prod.fst (Prod.snd s_347) < (↑(List.length s_337) : Int)) then
    if (0 : Int) ≤ Prod.fst (Prod.snd s_347) ∧ Prod.fst (Prod.snd s_347) < (↑(List.length s_337) : Int) then
      bif !Decidable.decide ((↑(UInt8.toNat (List.getD s_337 (Int.toNat (Prod.fst (Prod.snd s_347))) (0 : UInt8))) : Int) = (47 : Int)) then
        if (0 : Int) ≤ Prod.fst (Prod.snd s_347) ∧ Prod.fst (Prod.snd s_347) ≤ IntKind.wrap IntKind.i64 (Prod.fst (Prod.snd s_347) + (1 : Int)) ∧ IntKind.wrap IntKind.i64 (Prod.fst (Prod.snd s_347) + (1 : Int)) ≤ (↑(List.length s_337) : Int) then
          if List.length (Prod.fst s_347) + List.length (List.drop (Int.toNat (Prod.fst (Prod.snd s_347))) (List.take (Int.toNat (IntKind.wrap IntKind.i64 (Prod.fst (Prod.snd s_347) + (1 : Int)))) s_337)) ≤ (140737488355328 : Nat) then
            some (Sum.inl (Prod.fst s_347 ++ List.drop (Int.toNat (Prod.fst (Prod.snd s_347))) (List.take (Int.toNat (IntKind.wrap IntKind.i64 (Prod.fst (Prod.snd s_347) + (1 : Int)))) s_337), IntKind.wrap IntKind.i64 (Prod.fst (Prod.snd s_347) + (1 : Int)), Prod.snd (Prod.snd s_347)))
          else none
        else none
      else
        bif !Decidable.decide (Prod.fst s_347 = []) then
          if (List.length (Prod.snd (Prod.snd s_347)) + List.length (List.drop (0 : Nat) [Prod.fst s_347])) * (16 : Nat) ≤ (17592186044416 : Nat) then
            some (Sum.inl ([], IntKind.wrap IntKind.i64 (Prod.fst (Prod.snd s_347) + (1 : Int)), Prod.snd (Prod.snd s_347) ++ List.drop (0 : Nat) [Prod.fst s_347]))
          else none
        else
          some (Sum.inl ([], IntKind.wrap IntKind.i64 (Prod.fst (Prod.snd s_347) + (1 : Int)), Prod.snd (Prod.snd s_347)))
    else none
  else
    some (Sum.inr (Prod.fst s_347, Prod.snd (Prod.snd s_347)))

noncomputable def cellarerref02_Parts (s_333 : List UInt8) : Option (List (List UInt8)) :=
  (iter (cellarerref02_Parts_b0 (s_333)) ([], (0 : Int), [])).bind (fun t_343 =>
    bif !Decidable.decide (Prod.fst t_343 = []) then
      if (List.length (Prod.snd t_343) + List.length (List.drop (0 : Nat) [Prod.fst t_343])) * (16 : Nat) ≤ (17592186044416 : Nat) then
        some (Prod.snd t_343 ++ List.drop (0 : Nat) [Prod.fst t_343])
      else none
    else
      some (Prod.snd t_343))

def cellarerref02_Joined_res (r : List UInt8) : AV := (fun (r_365 : List UInt8) => AV.str r_365) r

def cellarerref02_Joined_out (r : List UInt8) : List AO := (fun (r_365 : List UInt8) => []) r

noncomputable def cellarerref02_Joined_b0 (l_358 : List (List UInt8)) (s_366 : List UInt8 × Int) : Option ((List UInt8 × Int) ⊕ (List UInt8)) :=
  bif Decidable.decide (Prod.snd s_366 < (↑(List.length l_358) : Int)) then
    if List.length (Prod.fst s_366) + List.length ((fun (x : List UInt8) => x) [(47 : UInt8)]) ≤ (140737488355328 : Nat) then
      if (0 : Int) ≤ Prod.snd s_366 ∧ Prod.snd s_366 < (↑(List.length l_358) : Int) then
        if List.length (Prod.fst s_366 ++ [(47 : UInt8)]) + List.length (List.getD l_358 (Int.toNat (Prod.snd s_366)) []) ≤ (140737488355328 : Nat) then
          some (Sum.inl (Prod.fst s_366 ++ [(47 : UInt8)] ++ List.getD l_358 (Int.toNat (Prod.snd s_366)) [], IntKind.wrap IntKind.i64 (Prod.snd s_366 + (1 : Int))))
        else none
      else none
    else none
  else
    some (Sum.inr (Prod.fst s_366))

noncomputable def cellarerref02_Joined (l_357 : List (List UInt8)) : Option (List UInt8) :=
  bif Decidable.decide ((↑(List.length l_357) : Int) = (0 : Int)) then
    some ([(47 : UInt8)])
  else
    (iter (cellarerref02_Joined_b0 (l_357)) ([], (0 : Int))).bind (fun t_362 =>
      some (t_362))

def cellarerref02_Clean_res (r : List UInt8 × Int) : AV := (fun (r_374 : List UInt8 × Int) => AV.tup [AV.str (Prod.fst r_374), AV.int IntKind.i64 (Prod.snd r_374)]) r

def cellarerref02_Clean_out (r : List UInt8 × Int) : List AO := (fun (r_374 : List UInt8 × Int) => []) r

noncomputable def cellarerref02_Clean_b0 (s_329 : List UInt8) (s_375 : Int) : Option ((Int) ⊕ (Unit ⊕ Unit)) :=
  bif Decidable.decide (s_375 < (↑(List.length s_329) : Int)) then
    if (0 : Int) ≤ s_375 ∧ s_375 < (↑(List.length s_329) : Int) then
      bif Decidable.decide ((↑(UInt8.toNat (List.getD s_329 (Int.toNat s_375) (0 : UInt8))) : Int) < (33 : Int)) then
        some (Sum.inr (Sum.inl ()))
      else
        if (0 : Int) ≤ s_375 ∧ s_375 < (↑(List.length s_329) : Int) then
          bif Decidable.decide ((126 : Int) < (↑(UInt8.toNat (List.getD s_329 (Int.toNat s_375) (0 : UInt8))) : Int)) then
            some (Sum.inr (Sum.inl ()))
          else
            some (Sum.inl (IntKind.wrap IntKind.i64 (s_375 + (1 : Int))))
        else none
    else none
  else
    some (Sum.inr (Sum.inr ()))

noncomputable def cellarerref02_Clean_b1 (o0_353 : List (List UInt8)) (s_376 : Int × List (List UInt8)) : Option ((Int × List (List UInt8)) ⊕ (List (List UInt8))) :=
  bif Decidable.decide (Prod.fst s_376 < (↑(List.length o0_353) : Int) - (↑(0 : Nat) : Int)) then
    if (0 : Int) ≤ Prod.fst s_376 ∧ Prod.fst s_376 + (↑(0 : Nat) : Int) < (↑(List.length o0_353) : Int) then
      if (0 : Nat) + Int.toNat (Prod.fst s_376) < List.length o0_353 then
        bif Decidable.decide (List.getD o0_353 ((0 : Nat) + Int.toNat (Prod.fst s_376)) [] = [(46 : UInt8), (46 : UInt8)]) then
          bif Decidable.decide ((0 : Int) < (↑(List.length (Prod.snd s_376)) : Int) - (↑(0 : Nat) : Int)) then
            if (0 : Int) ≤ (0 : Int) ∧ (0 : Int) ≤ IntKind.wrap IntKind.i64 ((↑(List.length (Prod.snd s_376)) : Int) - (↑(0 : Nat) : Int) - (1 : Int)) ∧ (↑(0 : Nat) : Int) + IntKind.wrap IntKind.i64 ((↑(List.length (Prod.snd s_376)) : Int) - (↑(0 : Nat) : Int) - (1 : Int)) ≤ (↑(List.length (Prod.snd s_376)) : Int) then
              some (Sum.inl (IntKind.wrap IntKind.i64 (Prod.fst s_376 + (1 : Int)), List.take ((0 : Nat) + Int.toNat (IntKind.wrap IntKind.i64 ((↑(List.length (Prod.snd s_376)) : Int) - (↑(0 : Nat) : Int) - (1 : Int)))) (Prod.snd s_376)))
            else none
          else
            some (Sum.inl (IntKind.wrap IntKind.i64 (Prod.fst s_376 + (1 : Int)), Prod.snd s_376))
        else
          if (0 : Int) ≤ Prod.fst s_376 ∧ Prod.fst s_376 + (↑(0 : Nat) : Int) < (↑(List.length o0_353) : Int) then
            if (0 : Nat) + Int.toNat (Prod.fst s_376) < List.length o0_353 then
              bif !Decidable.decide (List.getD o0_353 ((0 : Nat) + Int.toNat (Prod.fst s_376)) [] = [(46 : UInt8)]) then
                if (0 : Int) ≤ Prod.fst s_376 ∧ Prod.fst s_376 + (↑(0 : Nat) : Int) < (↑(List.length o0_353) : Int) then
                  if (0 : Nat) + Int.toNat (Prod.fst s_376) < List.length o0_353 then
                    if (List.length (Prod.snd s_376) + List.length (List.drop (0 : Nat) [List.getD o0_353 ((0 : Nat) + Int.toNat (Prod.fst s_376)) []])) * (16 : Nat) ≤ (17592186044416 : Nat) then
                      some (Sum.inl (IntKind.wrap IntKind.i64 (Prod.fst s_376 + (1 : Int)), Prod.snd s_376 ++ List.drop (0 : Nat) [List.getD o0_353 ((0 : Nat) + Int.toNat (Prod.fst s_376)) []]))
                    else none
                  else none
                else none
              else
                some (Sum.inl (IntKind.wrap IntKind.i64 (Prod.fst s_376 + (1 : Int)), Prod.snd s_376))
            else none
          else none
      else none
    else none
  else
    some (Sum.inr (Prod.snd s_376))

noncomputable def cellarerref02_Clean (s_326 : List UInt8) : Option (List UInt8 × Int) :=
  Option.bind (α := Unit ⊕ Unit) (
    bif Decidable.decide ((↑(List.length s_326) : Int) = (0 : Int)) then
      some (Sum.inl ())
    else
      if (0 : Int) ≤ (0 : Int) ∧ (0 : Int) < (↑(List.length s_326) : Int) then
        bif !Decidable.decide ((↑(UInt8.toNat (List.getD s_326 (Int.toNat (0 : Int)) (0 : UInt8))) : Int) = (47 : Int)) then
          some (Sum.inl ())
        else
          some (Sum.inr ())
      else none) (Sum.elim (fun t_327 =>
    some ([], (1 : Int))) (fun t_328 =>
    (iter (cellarerref02_Clean_b0 (s_326)) ((0 : Int))).bind (Sum.elim (fun t_331 =>
      some ([], (1 : Int))) (fun t_332 =>
      (cellarerref02_Parts (s_326)).bind fun a_349 =>
        (iter (cellarerref02_Clean_b1 (a_349)) ((0 : Int), [])).bind (fun t_356 =>
          (cellarerref02_Joined (List.drop (0 : Nat) t_356)).bind fun a_368 =>
            bif Decidable.decide ((200 : Int) < (↑(List.length a_368) : Int)) then
              some ([], (8 : Int))
            else
              some (a_368, (0 : Int)))))))

def cellarerref02_Right_res (r : Bool) : AV := (fun (r_381 : Bool) => AV.bool r_381) r

def cellarerref02_Right_out (r : Bool) : List AO := (fun (r_381 : Bool) => []) r

noncomputable def cellarerref02_Right (s_325 : List UInt8) : Option (Bool) :=
  (cellarerref02_Clean (s_325)).bind fun a_379 =>
    bif Decidable.decide (Prod.snd a_379 = (0 : Int)) then
      some (Decidable.decide (Prod.fst a_379 = s_325))
    else
      some (Bool.false)

def bits_Right_res (r : Bool) : AV := (fun (r_387 : Bool) => AV.bool r_387) r

def bits_Right_out (r : Bool) : List AO := (fun (r_387 : Bool) => []) r

noncomputable def bits_Right (m_383 : Int) (m_384 : Int) (m_385 : Int) : Option (Bool) :=
  bif Decidable.decide ((0 : Int) ≤ m_383) then
    bif Decidable.decide (m_383 ≤ (4095 : Int)) then
      bif Decidable.decide ((0 : Int) ≤ m_384) then
        bif Decidable.decide (m_384 ≤ (67108863 : Int)) then
          bif Decidable.decide ((0 : Int) ≤ m_385) then
            some (Decidable.decide (m_385 ≤ (67108863 : Int)))
          else
            some (Bool.false)
        else
          some (Bool.false)
      else
        some (Bool.false)
    else
      some (Bool.false)
  else
    some (Bool.false)

def cellarerref01_Right_res (r : Bool) : AV := (fun (r_393 : Bool) => AV.bool r_393) r

def cellarerref01_Right_out (r : Bool) : List AO := (fun (r_393 : Bool) => []) r

noncomputable def cellarerref01_Right (m_389 : Int) (m_390 : Int) (m_391 : Int) : Option (Bool) :=
  bif Decidable.decide ((0 : Int) ≤ m_389) then
    bif Decidable.decide (m_389 ≤ (4095 : Int)) then
      bif Decidable.decide ((0 : Int) ≤ m_390) then
        bif Decidable.decide (m_390 ≤ (67108863 : Int)) then
          bif Decidable.decide ((0 : Int) ≤ m_391) then
            some (Decidable.decide (m_391 ≤ (67108863 : Int)))
          else
            some (Bool.false)
        else
          some (Bool.false)
      else
        some (Bool.false)
    else
      some (Bool.false)
  else
    some (Bool.false)

def pack_Reserved_res (r : Bool) : AV := (fun (r_410 : Bool) => AV.bool r_410) r

def pack_Reserved_out (r : Bool) : List AO := (fun (r_410 : Bool) => []) r

noncomputable def pack_Reserved_b0 (p_398 : List UInt8) (t_399 : Int) (o0_401 : List (List UInt8)) (s_411 : Int) : Option ((Int) ⊕ (Unit ⊕ Unit)) :=
  bif Decidable.decide (s_411 < t_399) then
    if (0 : Int) ≤ s_411 ∧ s_411 + (↑(0 : Nat) : Int) < (↑(List.length o0_401) : Int) then
      if (0 : Nat) + Int.toNat s_411 < List.length o0_401 then
        bif Decidable.decide (p_398 = List.getD o0_401 ((0 : Nat) + Int.toNat s_411) []) then
          some (Sum.inr (Sum.inl ()))
        else
          (path_Under (List.getD o0_401 ((0 : Nat) + Int.toNat s_411) []) (p_398)).bind fun a_402 =>
            bif a_402 then
              some (Sum.inr (Sum.inl ()))
            else
              some (Sum.inl (IntKind.wrap IntKind.i64 (s_411 + (1 : Int))))
      else none
    else none
  else
    some (Sum.inr (Sum.inr ()))

noncomputable def pack_Reserved (p_397 : List UInt8) : Option (Bool) :=
  (iter (pack_Reserved_b0 (p_397) ((↑(List.length ((fun (x : List (Ty.T Ty.str)) => x) [[(47 : UInt8), (118 : UInt8), (97 : UInt8), (114 : UInt8), (47 : UInt8), (108 : UInt8), (105 : UInt8), (98 : UInt8), (47 : UInt8), (100 : UInt8), (112 : UInt8), (107 : UInt8), (103 : UInt8)], [(47 : UInt8), (101 : UInt8), (116 : UInt8), (99 : UInt8), (47 : UInt8), (97 : UInt8), (108 : UInt8), (116 : UInt8), (101 : UInt8), (114 : UInt8), (110 : UInt8), (97 : UInt8), (116 : UInt8), (105 : UInt8), (118 : UInt8), (101 : UInt8), (115 : UInt8)]])) : Int) - (↑(0 : Nat) : Int)) ([[(47 : UInt8), (118 : UInt8), (97 : UInt8), (114 : UInt8), (47 : UInt8), (108 : UInt8), (105 : UInt8), (98 : UInt8), (47 : UInt8), (100 : UInt8), (112 : UInt8), (107 : UInt8), (103 : UInt8)], [(47 : UInt8), (101 : UInt8), (116 : UInt8), (99 : UInt8), (47 : UInt8), (97 : UInt8), (108 : UInt8), (116 : UInt8), (101 : UInt8), (114 : UInt8), (110 : UInt8), (97 : UInt8), (116 : UInt8), (105 : UInt8), (118 : UInt8), (101 : UInt8), (115 : UInt8)]])) ((0 : Int))).bind (Sum.elim (fun t_403 =>
    some (Bool.true)) (fun t_404 =>
    (strings_HasSuffix (p_397) ([(46 : UInt8), (100 : UInt8), (112 : UInt8), (107 : UInt8), (103 : UInt8), (45 : UInt8), (110 : UInt8), (101 : UInt8), (119 : UInt8)])).bind fun a_405 =>
      bif a_405 then
        some (Bool.true)
      else
        (strings_HasSuffix (p_397) ([(46 : UInt8), (100 : UInt8), (112 : UInt8), (107 : UInt8), (103 : UInt8), (45 : UInt8), (116 : UInt8), (109 : UInt8), (112 : UInt8)])).bind fun a_406 =>
          bif a_406 then
            some (Bool.true)
          else
            (strings_HasSuffix (p_397) ([(46 : UInt8), (100 : UInt8), (112 : UInt8), (107 : UInt8), (103 : UInt8), (45 : UInt8), (100 : UInt8), (105 : UInt8), (115 : UInt8), (116 : UInt8)])).bind fun a_407 =>
              some (a_407)))

def pack_place_res (r : Bool) : AV := (fun (r_415 : Bool) => AV.bool r_415) r

def pack_place_out (r : Bool) : List AO := (fun (r_415 : Bool) => []) r

noncomputable def pack_place (p_395 : List UInt8) : Option (Bool) :=
  (path_Right (p_395)).bind fun a_396 =>
    bif a_396 then
      bif !Decidable.decide (p_395 = [(47 : UInt8)]) then
        (pack_Reserved (p_395)).bind fun a_413 =>
          some (!a_413)
      else
        some (Bool.false)
    else
      some (Bool.false)

def pack_by_res (r : Bool) : AV := (fun (r_420 : Bool) => AV.bool r_420) r

def pack_by_out (r : Bool) : List AO := (fun (r_420 : Bool) => []) r

noncomputable def pack_by (s_417 : List UInt8) : Option (Bool) :=
  bif Decidable.decide (s_417 = []) then
    some (Bool.true)
  else
    (path_Name (s_417)).bind fun a_418 =>
      some (a_418)

def pack_link_res (r : Bool) : AV := (fun (r_426 : Bool) => AV.bool r_426) r

def pack_link_out (r : Bool) : List AO := (fun (r_426 : Bool) => []) r

noncomputable def pack_link (p_422 : List UInt8) : Option (Bool) :=
  (pack_place (p_422)).bind fun a_423 =>
    bif a_423 then
      if List.length p_422 + List.length ((fun (x : List UInt8) => x) [(46 : UInt8), (100 : UInt8), (112 : UInt8), (107 : UInt8), (103 : UInt8), (45 : UInt8), (116 : UInt8), (109 : UInt8), (112 : UInt8)]) ≤ (140737488355328 : Nat) then
        (path_Right (p_422 ++ [(46 : UInt8), (100 : UInt8), (112 : UInt8), (107 : UInt8), (103 : UInt8), (45 : UInt8), (116 : UInt8), (109 : UInt8), (112 : UInt8)])).bind fun a_424 =>
          some (a_424)
      else none
    else
      some (Bool.false)

def pack_name_res (r : Bool) : AV := (fun (r_461 : Bool) => AV.bool r_461) r

def pack_name_out (r : Bool) : List AO := (fun (r_461 : Bool) => []) r

noncomputable def pack_name (s_457 : List UInt8) : Option (Bool) :=
  (path_Name (s_457)).bind fun a_458 =>
    bif a_458 then
      if List.length ((fun (x : List UInt8) => x) [(47 : UInt8)]) + List.length s_457 ≤ (140737488355328 : Nat) then
        (pack_Reserved ([(47 : UInt8)] ++ s_457)).bind fun a_459 =>
          some (!a_459)
      else none
    else
      some (Bool.false)

def pack_slaves_res (r : Bool) : AV := (fun (r_470 : Bool) => AV.bool r_470) r

def pack_slaves_out (r : Bool) : List AO := (fun (r_470 : Bool) => []) r

noncomputable def pack_slaves_b0 (t_442 : List (List UInt8 × List UInt8)) (t_443 : Int) (o0_456 : List (List UInt8)) (s_471 : Int) : Option ((Int) ⊕ (Unit ⊕ Unit)) :=
  bif Decidable.decide (s_471 < t_443) then
    if (0 : Int) ≤ s_471 ∧ s_471 < (↑(List.length t_442) : Int) then
      (pack_name (Prod.fst (List.getD t_442 (Int.toNat s_471) ([], [])))).bind fun a_462 =>
        bif !a_462 then
          some (Sum.inr (Sum.inl ()))
        else
          (pack_link (Prod.snd (List.getD t_442 (Int.toNat s_471) ([], [])))).bind fun a_463 =>
            bif !a_463 then
              some (Sum.inr (Sum.inl ()))
            else
              if (0 : Int) ≤ s_471 ∧ s_471 < (↑(List.length o0_456) : Int) then
                bif !Decidable.decide (List.getD o0_456 (Int.toNat s_471) [] = []) then
                  if (0 : Int) ≤ s_471 ∧ s_471 < (↑(List.length o0_456) : Int) then
                    (pack_place (List.getD o0_456 (Int.toNat s_471) [])).bind fun a_464 =>
                      bif !a_464 then
                        some (Sum.inr (Sum.inl ()))
                      else
                        some (Sum.inl (IntKind.wrap IntKind.i64 (s_471 + (1 : Int))))
                  else none
                else
                  some (Sum.inl (IntKind.wrap IntKind.i64 (s_471 + (1 : Int))))
              else none
    else none
  else
    some (Sum.inr (Sum.inr ()))

noncomputable def pack_slaves (a_428 : Int) (a_429 : List UInt8) (a_430 : List UInt8) (a_431 : List UInt8) (a_432 : Int) (a_433 : Int) (a_434 : Int) (a_435 : Int) (a_436 : Bool) (a_437 : Bool) (a_438 : List (List UInt8 × List UInt8)) (a_439 : List (List UInt8)) : Option (Bool) :=
  Option.bind (α := Unit ⊕ Unit) (
    bif !Decidable.decide ((↑(List.length a_438) : Int) = (↑(List.length a_439) : Int)) then
      some (Sum.inl ())
    else
      bif Decidable.decide ((8 : Int) < (↑(List.length a_438) : Int)) then
        some (Sum.inl ())
      else
        some (Sum.inr ())) (Sum.elim (fun t_440 =>
    some (Bool.false)) (fun t_441 =>
    (iter (pack_slaves_b0 (a_438) ((↑(List.length a_438) : Int)) (a_439)) ((0 : Int))).bind (Sum.elim (fun t_465 =>
      some (Bool.false)) (fun t_466 =>
      some (Bool.true)))))

def status_Trigger_res (r : Bool) : AV := (fun (r_479 : Bool) => AV.bool r_479) r

def status_Trigger_out (r : Bool) : List AO := (fun (r_479 : Bool) => []) r

noncomputable def status_Trigger (s_475 : List UInt8) : Option (Bool) :=
  (path_Name (s_475)).bind fun a_476 =>
    bif a_476 then
      some (Bool.true)
    else
      (path_Right (s_475)).bind fun a_477 =>
        some (a_477)

def cellarerref19_Reserved_res (r : Bool) : AV := (fun (r_490 : Bool) => AV.bool r_490) r

def cellarerref19_Reserved_out (r : Bool) : List AO := (fun (r_490 : Bool) => []) r

noncomputable def cellarerref19_Reserved (p_483 : List UInt8) : Option (Bool) :=
  bif Decidable.decide (p_483 = [(47 : UInt8), (118 : UInt8), (97 : UInt8), (114 : UInt8), (47 : UInt8), (108 : UInt8), (105 : UInt8), (98 : UInt8), (47 : UInt8), (100 : UInt8), (112 : UInt8), (107 : UInt8), (103 : UInt8)]) then
    some (Bool.true)
  else
    bif Decidable.decide (p_483 = [(47 : UInt8), (101 : UInt8), (116 : UInt8), (99 : UInt8), (47 : UInt8), (97 : UInt8), (108 : UInt8), (116 : UInt8), (101 : UInt8), (114 : UInt8), (110 : UInt8), (97 : UInt8), (116 : UInt8), (105 : UInt8), (118 : UInt8), (101 : UInt8), (115 : UInt8)]) then
      some (Bool.true)
    else
      (cellarerref02_Under ([(47 : UInt8), (118 : UInt8), (97 : UInt8), (114 : UInt8), (47 : UInt8), (108 : UInt8), (105 : UInt8), (98 : UInt8), (47 : UInt8), (100 : UInt8), (112 : UInt8), (107 : UInt8), (103 : UInt8)]) (p_483)).bind fun a_484 =>
        bif a_484 then
          some (Bool.true)
        else
          (cellarerref02_Under ([(47 : UInt8), (101 : UInt8), (116 : UInt8), (99 : UInt8), (47 : UInt8), (97 : UInt8), (108 : UInt8), (116 : UInt8), (101 : UInt8), (114 : UInt8), (110 : UInt8), (97 : UInt8), (116 : UInt8), (105 : UInt8), (118 : UInt8), (101 : UInt8), (115 : UInt8)]) (p_483)).bind fun a_485 =>
            bif a_485 then
              some (Bool.true)
            else
              (cellarerref19_Ends (p_483) ([(46 : UInt8), (100 : UInt8), (112 : UInt8), (107 : UInt8), (103 : UInt8), (45 : UInt8), (110 : UInt8), (101 : UInt8), (119 : UInt8)])).bind fun a_486 =>
                bif a_486 then
                  some (Bool.true)
                else
                  (cellarerref19_Ends (p_483) ([(46 : UInt8), (100 : UInt8), (112 : UInt8), (107 : UInt8), (103 : UInt8), (45 : UInt8), (116 : UInt8), (109 : UInt8), (112 : UInt8)])).bind fun a_487 =>
                    bif a_487 then
                      some (Bool.true)
                    else
                      (cellarerref19_Ends (p_483) ([(46 : UInt8), (100 : UInt8), (112 : UInt8), (107 : UInt8), (103 : UInt8), (45 : UInt8), (100 : UInt8), (105 : UInt8), (115 : UInt8), (116 : UInt8)])).bind fun a_488 =>
                        some (a_488)

def cellarerref19_Place_res (r : Bool) : AV := (fun (r_493 : Bool) => AV.bool r_493) r

def cellarerref19_Place_out (r : Bool) : List AO := (fun (r_493 : Bool) => []) r

noncomputable def cellarerref19_Place (p_481 : List UInt8) : Option (Bool) :=
  (cellarerref02_Right (p_481)).bind fun a_482 =>
    bif a_482 then
      bif !Decidable.decide (p_481 = [(47 : UInt8)]) then
        (cellarerref19_Reserved (p_481)).bind fun a_491 =>
          some (!a_491)
      else
        some (Bool.false)
    else
      some (Bool.false)

def cellarerref19_Name_res (r : Bool) : AV := (fun (r_501 : Bool) => AV.bool r_501) r

def cellarerref19_Name_out (r : Bool) : List AO := (fun (r_501 : Bool) => []) r

noncomputable def cellarerref19_Name (s_495 : List UInt8) : Option (Bool) :=
  (cellarerref02_Name (s_495)).bind fun a_496 =>
    bif a_496 then
      (cellarerref19_Ends (s_495) ([(46 : UInt8), (100 : UInt8), (112 : UInt8), (107 : UInt8), (103 : UInt8), (45 : UInt8), (116 : UInt8), (109 : UInt8), (112 : UInt8)])).bind fun a_497 =>
        bif !a_497 then
          (cellarerref19_Ends (s_495) ([(46 : UInt8), (100 : UInt8), (112 : UInt8), (107 : UInt8), (103 : UInt8), (45 : UInt8), (110 : UInt8), (101 : UInt8), (119 : UInt8)])).bind fun a_498 =>
            bif !a_498 then
              (cellarerref19_Ends (s_495) ([(46 : UInt8), (100 : UInt8), (112 : UInt8), (107 : UInt8), (103 : UInt8), (45 : UInt8), (100 : UInt8), (105 : UInt8), (115 : UInt8), (116 : UInt8)])).bind fun a_499 =>
                some (!a_499)
            else
              some (Bool.false)
        else
          some (Bool.false)
    else
      some (Bool.false)

def cellarerref19_Link_res (r : Bool) : AV := (fun (r_506 : Bool) => AV.bool r_506) r

def cellarerref19_Link_out (r : Bool) : List AO := (fun (r_506 : Bool) => []) r

noncomputable def cellarerref19_Link (p_503 : List UInt8) : Option (Bool) :=
  (cellarerref19_Place (p_503)).bind fun a_504 =>
    bif a_504 then
      some (Decidable.decide ((↑(List.length p_503) : Int) ≤ (191 : Int)))
    else
      some (Bool.false)

def cellarerref08_Trigger_res (r : Bool) : AV := (fun (r_512 : Bool) => AV.bool r_512) r

def cellarerref08_Trigger_out (r : Bool) : List AO := (fun (r_512 : Bool) => []) r

noncomputable def cellarerref08_Trigger (s_508 : List UInt8) : Option (Bool) :=
  (cellarerref02_Name (s_508)).bind fun a_509 =>
    bif a_509 then
      some (Bool.true)
    else
      (cellarerref02_Right (s_508)).bind fun a_510 =>
        some (a_510)

def cellarerlaw11_Few_res (r : Bool) : AV := (fun (r_572 : Bool) => AV.bool r_572) r

def cellarerlaw11_Few_out (r : Bool) : List AO := (fun (r_572 : Bool) => []) r

noncomputable def cellarerlaw11_Few_b0 (o0_530 : List (List UInt8 × List UInt8)) (s_574 : Int) : Option ((Int) ⊕ (Unit ⊕ Unit)) :=
  bif Decidable.decide (s_574 < (↑(List.length o0_530) : Int)) then
    if (0 : Int) ≤ s_574 ∧ s_574 < (↑(List.length o0_530) : Int) then
      bif Decidable.decide ((300 : Int) < (↑(List.length (Prod.fst (List.getD o0_530 (Int.toNat s_574) ([], [])))) : Int)) then
        some (Sum.inr (Sum.inl ()))
      else
        if (0 : Int) ≤ s_574 ∧ s_574 < (↑(List.length o0_530) : Int) then
          bif Decidable.decide ((300 : Int) < (↑(List.length (Prod.snd (List.getD o0_530 (Int.toNat s_574) ([], [])))) : Int)) then
            some (Sum.inr (Sum.inl ()))
          else
            some (Sum.inl (IntKind.wrap IntKind.i64 (s_574 + (1 : Int))))
        else none
    else none
  else
    some (Sum.inr (Sum.inr ()))

noncomputable def cellarerlaw11_Few_b1 (k_549 : Int) (o0_556 : List (List UInt8 × Int × List (List UInt8))) (s_576 : Int × Int) : Option ((Int × Int) ⊕ (Unit ⊕ Int)) :=
  if (0 : Int) ≤ k_549 ∧ k_549 < (↑(List.length o0_556) : Int) then
    bif Decidable.decide (Prod.snd s_576 < (↑(List.length (Prod.snd (Prod.snd (List.getD o0_556 (Int.toNat k_549) ([], (0 : Int), []))))) : Int)) then
      if (0 : Int) ≤ k_549 ∧ k_549 < (↑(List.length o0_556) : Int) then
        if (0 : Int) ≤ Prod.snd s_576 ∧ Prod.snd s_576 < (↑(List.length (Prod.snd (Prod.snd (List.getD o0_556 (Int.toNat k_549) ([], (0 : Int), []))))) : Int) then
          bif Decidable.decide ((3000 : Int) < IntKind.wrap IntKind.i64 (Prod.fst s_576 + IntKind.wrap IntKind.i64 ((1 : Int) + if (3000 : Int) < (↑(List.length (List.getD (Prod.snd (Prod.snd (List.getD o0_556 (Int.toNat k_549) ([], (0 : Int), [])))) (Int.toNat (Prod.snd s_576)) [])) : Int) then (3000 : Int) else (↑(List.length (List.getD (Prod.snd (Prod.snd (List.getD o0_556 (Int.toNat k_549) ([], (0 : Int), [])))) (Int.toNat (Prod.snd s_576)) [])) : Int)))) then
            some (Sum.inr (Sum.inl ()))
          else
            some (Sum.inl (IntKind.wrap IntKind.i64 (Prod.fst s_576 + IntKind.wrap IntKind.i64 ((1 : Int) + if (3000 : Int) < (↑(List.length (List.getD (Prod.snd (Prod.snd (List.getD o0_556 (Int.toNat k_549) ([], (0 : Int), [])))) (Int.toNat (Prod.snd s_576)) [])) : Int) then (3000 : Int) else (↑(List.length (List.getD (Prod.snd (Prod.snd (List.getD o0_556 (Int.toNat k_549) ([], (0 : Int), [])))) (Int.toNat (Prod.snd s_576)) [])) : Int))), IntKind.wrap IntKind.i64 (Prod.snd s_576 + (1 : Int))))
        else none
      else none
    else
      some (Sum.inr (Sum.inr (Prod.fst s_576)))
  else none

noncomputable def cellarerlaw11_Few_b2 (o0_543 : List (List UInt8 × Int × List (List UInt8))) (s_575 : Int × Int) : Option ((Int × Int) ⊕ (Unit ⊕ Int)) :=
  bif Decidable.decide (Prod.snd s_575 < (↑(List.length o0_543) : Int)) then
    Option.bind (α := Unit ⊕ Unit) (
      if (0 : Int) ≤ Prod.snd s_575 ∧ Prod.snd s_575 < (↑(List.length o0_543) : Int) then
        bif Decidable.decide ((300 : Int) < (↑(List.length (Prod.fst (List.getD o0_543 (Int.toNat (Prod.snd s_575)) ([], (0 : Int), [])))) : Int)) then
          some (Sum.inl ())
        else
          if (0 : Int) ≤ Prod.snd s_575 ∧ Prod.snd s_575 < (↑(List.length o0_543) : Int) then
            bif Decidable.decide ((70 : Int) < (↑(List.length (Prod.snd (Prod.snd (List.getD o0_543 (Int.toNat (Prod.snd s_575)) ([], (0 : Int), []))))) : Int)) then
              some (Sum.inl ())
            else
              some (Sum.inr ())
          else none
      else none) (Sum.elim (fun t_544 =>
      some (Sum.inr (Sum.inl ()))) (fun t_545 =>
      (iter (cellarerlaw11_Few_b1 (Prod.snd s_575) (o0_543)) (Prod.fst s_575, (0 : Int))).bind (Sum.elim (fun t_557 =>
        some (Sum.inr (Sum.inl ()))) (fun t_559 =>
        some (Sum.inl (t_559, IntKind.wrap IntKind.i64 (Prod.snd s_575 + (1 : Int))))))))
  else
    some (Sum.inr (Sum.inr (Prod.fst s_575)))

noncomputable def cellarerlaw11_Few_b3 (l_517 : List (List UInt8 × List UInt8 × Bool × List UInt8 × List (List UInt8 × List UInt8) × List (List UInt8 × Int × List (List UInt8)))) (s_573 : Int × Int) : Option ((Int × Int) ⊕ (Unit ⊕ Unit)) :=
  bif Decidable.decide (Prod.snd s_573 < (↑(List.length l_517) : Int)) then
    if (0 : Int) ≤ Prod.snd s_573 ∧ Prod.snd s_573 < (↑(List.length l_517) : Int) then
      Option.bind (α := Unit ⊕ Unit) (
        bif Decidable.decide ((300 : Int) < (↑(List.length (Prod.fst (List.getD l_517 (Int.toNat (Prod.snd s_573)) ([], [], Bool.false, [], [], [])))) : Int)) then
          some (Sum.inl ())
        else
          bif Decidable.decide ((300 : Int) < (↑(List.length (Prod.fst (Prod.snd (List.getD l_517 (Int.toNat (Prod.snd s_573)) ([], [], Bool.false, [], [], []))))) : Int)) then
            some (Sum.inl ())
          else
            bif Decidable.decide ((300 : Int) < (↑(List.length (Prod.fst (Prod.snd (Prod.snd (Prod.snd (List.getD l_517 (Int.toNat (Prod.snd s_573)) ([], [], Bool.false, [], [], []))))))) : Int)) then
              some (Sum.inl ())
            else
              bif Decidable.decide ((70 : Int) < (↑(List.length (Prod.fst (Prod.snd (Prod.snd (Prod.snd (Prod.snd (List.getD l_517 (Int.toNat (Prod.snd s_573)) ([], [], Bool.false, [], [], [])))))))) : Int)) then
                some (Sum.inl ())
              else
                bif Decidable.decide ((70 : Int) < (↑(List.length (Prod.snd (Prod.snd (Prod.snd (Prod.snd (Prod.snd (List.getD l_517 (Int.toNat (Prod.snd s_573)) ([], [], Bool.false, [], [], [])))))))) : Int)) then
                  some (Sum.inl ())
                else
                  some (Sum.inr ())) (Sum.elim (fun t_520 =>
        some (Sum.inr (Sum.inl ()))) (fun t_521 =>
        (iter (cellarerlaw11_Few_b0 (Prod.fst (Prod.snd (Prod.snd (Prod.snd (Prod.snd (List.getD l_517 (Int.toNat (Prod.snd s_573)) ([], [], Bool.false, [], [], [])))))))) ((0 : Int))).bind (Sum.elim (fun t_532 =>
          some (Sum.inr (Sum.inl ()))) (fun t_533 =>
          (iter (cellarerlaw11_Few_b2 (Prod.snd (Prod.snd (Prod.snd (Prod.snd (Prod.snd (List.getD l_517 (Int.toNat (Prod.snd s_573)) ([], [], Bool.false, [], [], [])))))))) (Prod.fst s_573, (0 : Int))).bind (Sum.elim (fun t_562 =>
            some (Sum.inr (Sum.inl ()))) (fun t_564 =>
            bif Decidable.decide ((3000 : Int) < IntKind.wrap IntKind.i64 (t_564 + IntKind.wrap IntKind.i64 ((↑(List.length (Prod.fst (Prod.snd (Prod.snd (Prod.snd (Prod.snd (List.getD l_517 (Int.toNat (Prod.snd s_573)) ([], [], Bool.false, [], [], [])))))))) : Int) + (↑(List.length (Prod.snd (Prod.snd (Prod.snd (Prod.snd (Prod.snd (List.getD l_517 (Int.toNat (Prod.snd s_573)) ([], [], Bool.false, [], [], [])))))))) : Int)))) then
              some (Sum.inr (Sum.inl ()))
            else
              some (Sum.inl (IntKind.wrap IntKind.i64 (t_564 + IntKind.wrap IntKind.i64 ((↑(List.length (Prod.fst (Prod.snd (Prod.snd (Prod.snd (Prod.snd (List.getD l_517 (Int.toNat (Prod.snd s_573)) ([], [], Bool.false, [], [], [])))))))) : Int) + (↑(List.length (Prod.snd (Prod.snd (Prod.snd (Prod.snd (Prod.snd (List.getD l_517 (Int.toNat (Prod.snd s_573)) ([], [], Bool.false, [], [], [])))))))) : Int))), IntKind.wrap IntKind.i64 (Prod.snd s_573 + (1 : Int))))))))))
    else none
  else
    some (Sum.inr (Sum.inr ()))

noncomputable def cellarerlaw11_Few (l_516 : List (List UInt8 × List UInt8 × Bool × List UInt8 × List (List UInt8 × List UInt8) × List (List UInt8 × Int × List (List UInt8)))) : Option (Bool) :=
  bif Decidable.decide ((70 : Int) < (↑(List.length l_516) : Int)) then
    some (Bool.false)
  else
    (iter (cellarerlaw11_Few_b3 (l_516)) ((0 : Int), (0 : Int))).bind (Sum.elim (fun t_568 =>
      some (Bool.false)) (fun t_569 =>
      some (Bool.true)))

def cellarerlaw19_FewActs_res (r : Bool) : AV := (fun (r_592 : Bool) => AV.bool r_592) r

def cellarerlaw19_FewActs_out (r : Bool) : List AO := (fun (r_592 : Bool) => []) r

noncomputable def cellarerlaw19_FewActs_b0 (l_585 : List (Int × List UInt8 × List UInt8 × List UInt8 × (Int × Int × Int) × Int × Bool × Bool × List (List UInt8 × List UInt8) × List (List UInt8))) (s_593 : Int) : Option ((Int) ⊕ (Unit ⊕ Unit)) :=
  bif Decidable.decide (s_593 < (↑(List.length l_585) : Int)) then
    if (0 : Int) ≤ s_593 ∧ s_593 < (↑(List.length l_585) : Int) then
      (cellarerlaw11_Few (List.drop (0 : Nat) [(Prod.fst (Prod.snd (List.getD l_585 (Int.toNat s_593) ((0 : Int), [], [], [], ((0 : Int), (0 : Int), (0 : Int)), (0 : Int), Bool.false, Bool.false, [], []))), Prod.fst (Prod.snd (Prod.snd (Prod.snd (List.getD l_585 (Int.toNat s_593) ((0 : Int), [], [], [], ((0 : Int), (0 : Int), (0 : Int)), (0 : Int), Bool.false, Bool.false, [], []))))), Bool.false, Prod.fst (Prod.snd (Prod.snd (List.getD l_585 (Int.toNat s_593) ((0 : Int), [], [], [], ((0 : Int), (0 : Int), (0 : Int)), (0 : Int), Bool.false, Bool.false, [], [])))), Prod.fst (Prod.snd (Prod.snd (Prod.snd (Prod.snd (Prod.snd (Prod.snd (Prod.snd (Prod.snd (List.getD l_585 (Int.toNat s_593) ((0 : Int), [], [], [], ((0 : Int), (0 : Int), (0 : Int)), (0 : Int), Bool.false, Bool.false, [], [])))))))))), List.drop (0 : Nat) [([], (0 : Int), Prod.snd (Prod.snd (Prod.snd (Prod.snd (Prod.snd (Prod.snd (Prod.snd (Prod.snd (Prod.snd (List.getD l_585 (Int.toNat s_593) ((0 : Int), [], [], [], ((0 : Int), (0 : Int), (0 : Int)), (0 : Int), Bool.false, Bool.false, [], [])))))))))))])])).bind fun a_587 =>
        bif !a_587 then
          some (Sum.inr (Sum.inl ()))
        else
          some (Sum.inl (IntKind.wrap IntKind.i64 (s_593 + (1 : Int))))
    else none
  else
    some (Sum.inr (Sum.inr ()))

noncomputable def cellarerlaw19_FewActs (l_583 : List (Int × List UInt8 × List UInt8 × List UInt8 × (Int × Int × Int) × Int × Bool × Bool × List (List UInt8 × List UInt8) × List (List UInt8))) (n_584 : Int) : Option (Bool) :=
  bif Decidable.decide (n_584 < (↑(List.length l_583) : Int)) then
    some (Bool.false)
  else
    (iter (cellarerlaw19_FewActs_b0 (l_583)) ((0 : Int))).bind (Sum.elim (fun t_588 =>
      some (Bool.false)) (fun t_589 =>
      some (Bool.true)))

def pack_Act_res (r : Bool) : AV := (fun (r_670 : Bool) => AV.bool r_670) r

def pack_Act_out (r : Bool) : List AO := (fun (r_670 : Bool) => []) r

noncomputable def pack_Act (a_608 : Int) (a_609 : List UInt8) (a_610 : List UInt8) (a_611 : List UInt8) (a_612 : Int) (a_613 : Int) (a_614 : Int) (a_615 : Int) (a_616 : Bool) (a_617 : Bool) (a_618 : List (List UInt8 × List UInt8)) (a_619 : List (List UInt8)) : Option (Bool) :=
  Option.bind (α := Bool ⊕ Unit ⊕ Unit ⊕ Unit ⊕ Unit) (
    Option.bind (α := Bool ⊕ Unit ⊕ Unit ⊕ Unit ⊕ Unit ⊕ Unit ⊕ Unit) (
      Option.bind (α := Unit ⊕ Unit ⊕ Unit ⊕ Unit ⊕ Unit ⊕ Unit ⊕ Unit ⊕ Unit ⊕ Unit) (
        bif Decidable.decide (a_608 = (1 : Int)) then
          bif !Decidable.decide (a_611 = []) then
            (pack_place (a_611)).bind fun a_620 =>
              bif !a_620 then
                some (Sum.inl ())
              else
                some (Sum.inr (Sum.inl ()))
          else
            some (Sum.inr (Sum.inl ()))
        else
          bif Decidable.decide (a_608 = (2 : Int)) then
            some (Sum.inr (Sum.inl ()))
          else
            bif Decidable.decide (a_608 = (3 : Int)) then
              some (Sum.inr (Sum.inr (Sum.inl ())))
            else
              bif Decidable.decide (a_608 = (4 : Int)) then
                some (Sum.inr (Sum.inr (Sum.inr (Sum.inl ()))))
              else
                bif Decidable.decide (a_608 = (5 : Int)) then
                  some (Sum.inr (Sum.inr (Sum.inr (Sum.inr (Sum.inl ())))))
                else
                  Option.bind (α := Unit ⊕ Unit) (
                    Option.bind (α := Bool) (
                      bif Decidable.decide (a_608 = (6 : Int)) then
                        some (Bool.true)
                      else
                        some (Decidable.decide (a_608 = (8 : Int)))) (fun t_622 =>
                      bif t_622 then
                        some (Sum.inl ())
                      else
                        some (Sum.inr ()))) (Sum.elim (fun t_624 =>
                    some (Sum.inr (Sum.inr (Sum.inr (Sum.inr (Sum.inr (Sum.inl ()))))))) (fun t_625 =>
                    Option.bind (α := Unit ⊕ Unit) (
                      Option.bind (α := Bool) (
                        bif Decidable.decide (a_608 = (7 : Int)) then
                          some (Bool.true)
                        else
                          some (Decidable.decide (a_608 = (9 : Int)))) (fun t_627 =>
                        bif t_627 then
                          some (Sum.inl ())
                        else
                          some (Sum.inr ()))) (Sum.elim (fun t_629 =>
                      some (Sum.inr (Sum.inr (Sum.inr (Sum.inr (Sum.inr (Sum.inr (Sum.inl ())))))))) (fun t_630 =>
                      bif Decidable.decide (a_608 = (10 : Int)) then
                        some (Sum.inr (Sum.inr (Sum.inr (Sum.inr (Sum.inr (Sum.inr (Sum.inr (Sum.inl ()))))))))
                      else
                        some (Sum.inr (Sum.inr (Sum.inr (Sum.inr (Sum.inr (Sum.inr (Sum.inr (Sum.inr ()))))))))))))) (Sum.elim (fun t_633 =>
        some (Sum.inl (Bool.false))) (Sum.elim (fun t_634 =>
        (pack_place (a_610)).bind fun a_635 =>
          bif a_635 then
            (pack_by (a_609)).bind fun a_636 =>
              some (Sum.inl (a_636))
          else
            some (Sum.inl (Bool.false))) (Sum.elim (fun t_637 =>
        (bits_Right (a_612) (a_613) (a_614)).bind fun a_638 =>
          bif !a_638 then
            some (Sum.inl (Bool.false))
          else
            some (Sum.inr (Sum.inl ()))) (Sum.elim (fun t_639 =>
        some (Sum.inr (Sum.inl ()))) (Sum.elim (fun t_640 =>
        some (Sum.inr (Sum.inr (Sum.inl ())))) (Sum.elim (fun t_641 =>
        some (Sum.inr (Sum.inr (Sum.inr (Sum.inl ()))))) (Sum.elim (fun t_642 =>
        some (Sum.inr (Sum.inr (Sum.inr (Sum.inr (Sum.inl ())))))) (Sum.elim (fun t_643 =>
        some (Sum.inr (Sum.inr (Sum.inr (Sum.inr (Sum.inr (Sum.inl ()))))))) (fun t_644 =>
        some (Sum.inr (Sum.inr (Sum.inr (Sum.inr (Sum.inr (Sum.inr ())))))))))))))))) (Sum.elim (fun t_647 =>
      some (Sum.inl (t_647))) (Sum.elim (fun t_648 =>
      (pack_place (a_610)).bind fun a_649 =>
        some (Sum.inl (a_649))) (Sum.elim (fun t_650 =>
      (pack_link (a_611)).bind fun a_651 =>
        bif !a_651 then
          some (Sum.inl (Bool.false))
        else
          bif Decidable.decide (a_615 < (-2147483648 : Int)) then
            some (Sum.inl (Bool.false))
          else
            bif Decidable.decide ((2147483647 : Int) < a_615) then
              some (Sum.inl (Bool.false))
            else
              (pack_slaves (a_608) (a_609) (a_610) (a_611) (a_612) (a_613) (a_614) (a_615) (a_616) (a_617) (a_618) (a_619)).bind fun a_652 =>
                bif !a_652 then
                  some (Sum.inl (Bool.false))
                else
                  some (Sum.inr (Sum.inl ()))) (Sum.elim (fun t_653 =>
      some (Sum.inr (Sum.inl ()))) (Sum.elim (fun t_654 =>
      some (Sum.inr (Sum.inr (Sum.inl ())))) (Sum.elim (fun t_655 =>
      some (Sum.inr (Sum.inr (Sum.inr (Sum.inl ()))))) (fun t_656 =>
      some (Sum.inr (Sum.inr (Sum.inr (Sum.inr ())))))))))))) (Sum.elim (fun t_659 =>
    some (t_659)) (Sum.elim (fun t_660 =>
    (pack_name (a_609)).bind fun a_661 =>
      bif a_661 then
        (pack_place (a_610)).bind fun a_662 =>
          some (a_662)
      else
        some (Bool.false)) (Sum.elim (fun t_663 =>
    (pack_name (a_609)).bind fun a_664 =>
      some (a_664)) (Sum.elim (fun t_665 =>
    (status_Trigger (a_609)).bind fun a_666 =>
      some (a_666)) (fun t_667 =>
    some (Bool.false))))))

def pack_odd_res (r : Bool) : AV := (fun (r_673 : Bool) => AV.bool r_673) r

def pack_odd_out (r : Bool) : List AO := (fun (r_673 : Bool) => []) r

noncomputable def pack_odd (a_596 : Int) (a_597 : List UInt8) (a_598 : List UInt8) (a_599 : List UInt8) (a_600 : Int) (a_601 : Int) (a_602 : Int) (a_603 : Int) (a_604 : Bool) (a_605 : Bool) (a_606 : List (List UInt8 × List UInt8)) (a_607 : List (List UInt8)) : Option (Bool) :=
  (pack_Act (a_596) (a_597) (a_598) (a_599) (a_600) (a_601) (a_602) (a_603) (a_604) (a_605) (a_606) (a_607)).bind fun a_671 =>
    some (!a_671)

def cellarerref19_Act_res (r : Bool) : AV := (fun (r_734 : Bool) => AV.bool r_734) r

def cellarerref19_Act_out (r : Bool) : List AO := (fun (r_734 : Bool) => []) r

noncomputable def cellarerref19_Act_b0 (o0_713 : List (List UInt8 × List UInt8)) (o0_714 : List (List UInt8)) (s_735 : Int) : Option ((Int) ⊕ (Unit ⊕ Unit)) :=
  bif Decidable.decide (s_735 < (↑(List.length o0_713) : Int)) then
    if (0 : Int) ≤ s_735 ∧ s_735 < (↑(List.length o0_713) : Int) then
      (cellarerref19_Name (Prod.fst (List.getD o0_713 (Int.toNat s_735) ([], [])))).bind fun a_715 =>
        bif !a_715 then
          some (Sum.inr (Sum.inl ()))
        else
          if (0 : Int) ≤ s_735 ∧ s_735 < (↑(List.length o0_713) : Int) then
            (cellarerref19_Link (Prod.snd (List.getD o0_713 (Int.toNat s_735) ([], [])))).bind fun a_716 =>
              bif !a_716 then
                some (Sum.inr (Sum.inl ()))
              else
                if (0 : Int) ≤ s_735 ∧ s_735 < (↑(List.length o0_714) : Int) then
                  bif !Decidable.decide (List.getD o0_714 (Int.toNat s_735) [] = []) then
                    if (0 : Int) ≤ s_735 ∧ s_735 < (↑(List.length o0_714) : Int) then
                      (cellarerref19_Place (List.getD o0_714 (Int.toNat s_735) [])).bind fun a_717 =>
                        bif !a_717 then
                          some (Sum.inr (Sum.inl ()))
                        else
                          some (Sum.inl (IntKind.wrap IntKind.i64 (s_735 + (1 : Int))))
                    else none
                  else
                    some (Sum.inl (IntKind.wrap IntKind.i64 (s_735 + (1 : Int))))
                else none
          else none
    else none
  else
    some (Sum.inr (Sum.inr ()))

noncomputable def cellarerref19_Act (a_676 : Int) (a_677 : List UInt8) (a_678 : List UInt8) (a_679 : List UInt8) (a_680 : Int) (a_681 : Int) (a_682 : Int) (a_683 : Int) (a_684 : Bool) (a_685 : Bool) (a_686 : List (List UInt8 × List UInt8)) (a_687 : List (List UInt8)) : Option (Bool) :=
  Option.bind (α := Bool) (
    bif Decidable.decide (a_677 = []) then
      some (Bool.true)
    else
      (cellarerref02_Name (a_677)).bind fun a_688 =>
        some (a_688)) (fun t_690 =>
    bif Decidable.decide (a_676 = (1 : Int)) then
      (cellarerref19_Place (a_678)).bind fun a_691 =>
        bif a_691 then
          bif t_690 then
            bif Decidable.decide (a_679 = []) then
              some (Bool.true)
            else
              (cellarerref19_Place (a_679)).bind fun a_692 =>
                some (a_692)
          else
            some (Bool.false)
        else
          some (Bool.false)
    else
      bif Decidable.decide (a_676 = (2 : Int)) then
        (cellarerref19_Place (a_678)).bind fun a_693 =>
          bif a_693 then
            some (t_690)
          else
            some (Bool.false)
      else
        bif Decidable.decide (a_676 = (3 : Int)) then
          (cellarerref19_Place (a_678)).bind fun a_694 =>
            bif a_694 then
              (cellarerref01_Right (a_680) (a_681) (a_682)).bind fun a_695 =>
                some (a_695)
            else
              some (Bool.false)
        else
          bif Decidable.decide (a_676 = (4 : Int)) then
            (cellarerref19_Place (a_678)).bind fun a_696 =>
              some (a_696)
          else
            bif Decidable.decide (a_676 = (5 : Int)) then
              Option.bind (α := Unit ⊕ Unit) (
                (cellarerref19_Name (a_677)).bind fun a_697 =>
                  bif !a_697 then
                    some (Sum.inl ())
                  else
                    (cellarerref19_Link (a_679)).bind fun a_698 =>
                      bif !a_698 then
                        some (Sum.inl ())
                      else
                        (cellarerref19_Place (a_678)).bind fun a_699 =>
                          bif !a_699 then
                            some (Sum.inl ())
                          else
                            bif Decidable.decide (a_683 < (-2147483648 : Int)) then
                              some (Sum.inl ())
                            else
                              bif Decidable.decide ((2147483647 : Int) < a_683) then
                                some (Sum.inl ())
                              else
                                bif !Decidable.decide ((↑(List.length a_687) : Int) = (↑(List.length a_686) : Int)) then
                                  some (Sum.inl ())
                                else
                                  bif Decidable.decide ((8 : Int) < (↑(List.length a_686) : Int)) then
                                    some (Sum.inl ())
                                  else
                                    some (Sum.inr ())) (Sum.elim (fun t_700 =>
                some (Bool.false)) (fun t_701 =>
                (iter (cellarerref19_Act_b0 (a_686) (a_687)) ((0 : Int))).bind (Sum.elim (fun t_718 =>
                  some (Bool.false)) (fun t_719 =>
                  some (Bool.true)))))
            else
              Option.bind (α := Bool) (
                bif Decidable.decide (a_676 = (6 : Int)) then
                  some (Bool.true)
                else
                  some (Decidable.decide (a_676 = (8 : Int)))) (fun t_723 =>
                bif t_723 then
                  (cellarerref19_Name (a_677)).bind fun a_724 =>
                    bif a_724 then
                      (cellarerref19_Place (a_678)).bind fun a_725 =>
                        some (a_725)
                    else
                      some (Bool.false)
                else
                  Option.bind (α := Bool) (
                    bif Decidable.decide (a_676 = (7 : Int)) then
                      some (Bool.true)
                    else
                      some (Decidable.decide (a_676 = (9 : Int)))) (fun t_727 =>
                    bif t_727 then
                      (cellarerref19_Name (a_677)).bind fun a_728 =>
                        some (a_728)
                    else
                      bif Decidable.decide (a_676 = (10 : Int)) then
                        (cellarerref08_Trigger (a_677)).bind fun a_729 =>
                          some (a_729)
                      else
                        some (Bool.false))))

def relation_Right_res (r : Bool) : AV := (fun (r_747 : Bool) => AV.bool r_747) r

def relation_Right_out (r : Bool) : List AO := (fun (r_747 : Bool) => []) r

noncomputable def relation_Right (x_738 : List UInt8) (x_739 : List UInt8) (x_740 : List UInt8) : Option (Bool) :=
  (path_Name (x_738)).bind fun a_741 =>
    bif !a_741 then
      some (Bool.false)
    else
      bif Decidable.decide (x_739 = []) then
        some (Decidable.decide (x_740 = []))
      else
        Option.bind (α := Bool) (
          bif Decidable.decide (x_739 = [(60 : UInt8), (60 : UInt8)]) then
            some (Bool.true)
          else
            bif Decidable.decide (x_739 = [(60 : UInt8), (61 : UInt8)]) then
              some (Bool.true)
            else
              bif Decidable.decide (x_739 = [(61 : UInt8)]) then
                some (Bool.true)
              else
                bif Decidable.decide (x_739 = [(62 : UInt8), (61 : UInt8)]) then
                  some (Bool.true)
                else
                  some (Decidable.decide (x_739 = [(62 : UInt8), (62 : UInt8)]))) (fun t_743 =>
          bif t_743 then
            (version_Parse (x_740)).bind fun a_744 =>
              some (Decidable.decide (Prod.snd (Prod.snd (Prod.snd a_744)) = (0 : Int)))
          else
            some (Bool.false))

def relation_Text_res (r : List UInt8) : AV := (fun (r_753 : List UInt8) => AV.str r_753) r

def relation_Text_out (r : List UInt8) : List AO := (fun (r_753 : List UInt8) => []) r

noncomputable def relation_Text (x_749 : List UInt8) (x_750 : List UInt8) (x_751 : List UInt8) : Option (List UInt8) :=
  bif Decidable.decide (x_750 = []) then
    some (x_749)
  else
    if List.length x_749 + List.length ((fun (x : List UInt8) => x) [(32 : UInt8), (40 : UInt8)]) ≤ (140737488355328 : Nat) then
      if List.length (x_749 ++ [(32 : UInt8), (40 : UInt8)]) + List.length x_750 ≤ (140737488355328 : Nat) then
        if List.length (x_749 ++ [(32 : UInt8), (40 : UInt8)] ++ x_750) + List.length ((fun (x : List UInt8) => x) [(32 : UInt8)]) ≤ (140737488355328 : Nat) then
          if List.length (x_749 ++ [(32 : UInt8), (40 : UInt8)] ++ x_750 ++ [(32 : UInt8)]) + List.length x_751 ≤ (140737488355328 : Nat) then
            if List.length (x_749 ++ [(32 : UInt8), (40 : UInt8)] ++ x_750 ++ [(32 : UInt8)] ++ x_751) + List.length ((fun (x : List UInt8) => x) [(41 : UInt8)]) ≤ (140737488355328 : Nat) then
              some (x_749 ++ [(32 : UInt8), (40 : UInt8)] ++ x_750 ++ [(32 : UInt8)] ++ x_751 ++ [(41 : UInt8)])
            else none
          else none
        else none
      else none
    else none

def relation_right_res (r : List UInt8 × Int) : AV := (fun (r_762 : List UInt8 × Int) => AV.tup [AV.str (Prod.fst r_762), AV.int IntKind.i64 (Prod.snd r_762)]) r

def relation_right_out (r : List UInt8 × Int) : List AO := (fun (r_762 : List UInt8 × Int) => []) r

noncomputable def relation_right (x_755 : List UInt8) (x_756 : List UInt8) (x_757 : List UInt8) : Option (List UInt8 × Int) :=
  (relation_Right (x_755) (x_756) (x_757)).bind fun a_758 =>
    bif !a_758 then
      some ([], (1 : Int))
    else
      (relation_Text (x_755) (x_756) (x_757)).bind fun a_759 =>
        some (a_759, (0 : Int))

def api_Rel__res (r : List UInt8 × Int) : AV := (fun (r_786 : List UInt8 × Int) => AV.tup [AV.str (Prod.fst r_786), AV.int IntKind.i64 (Prod.snd r_786)]) r

def api_Rel__out (r : List UInt8 × Int) : List AO := (fun (r_786 : List UInt8 × Int) => []) r

noncomputable def api_Rel__b0 (t_773 : List (List UInt8 × List UInt8 × List UInt8)) (t_774 : Int) (s_787 : Int × List (List UInt8)) : Option ((Int × List (List UInt8)) ⊕ (Int ⊕ List (List UInt8))) :=
  bif Decidable.decide (Prod.fst s_787 < t_774) then
    if (0 : Int) ≤ Prod.fst s_787 ∧ Prod.fst s_787 < (↑(List.length t_773) : Int) then
      (relation_right (Prod.fst (List.getD t_773 (Int.toNat (Prod.fst s_787)) ([], [], []))) (Prod.fst (Prod.snd (List.getD t_773 (Int.toNat (Prod.fst s_787)) ([], [], [])))) (Prod.snd (Prod.snd (List.getD t_773 (Int.toNat (Prod.fst s_787)) ([], [], []))))).bind fun a_777 =>
        bif !Decidable.decide (Prod.snd a_777 = (0 : Int)) then
          some (Sum.inr (Sum.inl (Prod.snd a_777)))
        else
          if (List.length (Prod.snd s_787) + List.length (List.drop (0 : Nat) [Prod.fst a_777])) * (16 : Nat) ≤ (17592186044416 : Nat) then
            some (Sum.inl (IntKind.wrap IntKind.i64 (Prod.fst s_787 + (1 : Int)), Prod.snd s_787 ++ List.drop (0 : Nat) [Prod.fst a_777]))
          else none
    else none
  else
    some (Sum.inr (Sum.inr (Prod.snd s_787)))

noncomputable def api_Rel_ (l_765 : List (List UInt8 × List UInt8 × List UInt8)) (between_766 : List UInt8) : Option (List UInt8 × Int) :=
  bif Decidable.decide ((64 : Int) < (↑(List.length l_765) : Int)) then
    some ([], (22 : Int))
  else
    (iter (api_Rel__b0 (l_765) ((↑(List.length l_765) : Int))) ((0 : Int), [])).bind (Sum.elim (fun t_779 =>
      some ([], t_779)) (fun t_781 =>
      (strings_Join (List.drop (0 : Nat) t_781) (between_766)).bind fun a_782 =>
        some (a_782, (0 : Int))))

def relation_group_res (r : List UInt8 × Int) : AV := (fun (r_792 : List UInt8 × Int) => AV.tup [AV.str (Prod.fst r_792), AV.int IntKind.i64 (Prod.snd r_792)]) r

def relation_group_out (r : List UInt8 × Int) : List AO := (fun (r_792 : List UInt8 × Int) => []) r

noncomputable def relation_group (l_764 : List (List UInt8 × List UInt8 × List UInt8)) : Option (List UInt8 × Int) :=
  bif Decidable.decide ((↑(List.length l_764) : Int) = (0 : Int)) then
    some ([], (1 : Int))
  else
    (api_Rel_ (l_764) ([(32 : UInt8), (124 : UInt8), (32 : UInt8)])).bind fun a_789 =>
      some (Prod.fst a_789, Prod.snd a_789)

def api_Rel__50_res (r : List UInt8 × Int) : AV := (fun (r_822 : List UInt8 × Int) => AV.tup [AV.str (Prod.fst r_822), AV.int IntKind.i64 (Prod.snd r_822)]) r

def api_Rel__50_out (r : List UInt8 × Int) : List AO := (fun (r_822 : List UInt8 × Int) => []) r

noncomputable def api_Rel__50_b0 (t_809 : List (List (List UInt8 × List UInt8 × List UInt8))) (t_810 : Int) (s_823 : Int × List (List UInt8)) : Option ((Int × List (List UInt8)) ⊕ (Int ⊕ List (List UInt8))) :=
  bif Decidable.decide (Prod.fst s_823 < t_810) then
    if (0 : Int) ≤ Prod.fst s_823 ∧ Prod.fst s_823 < (↑(List.length t_809) : Int) then
      (relation_group (List.getD t_809 (Int.toNat (Prod.fst s_823)) [])).bind fun a_813 =>
        bif !Decidable.decide (Prod.snd a_813 = (0 : Int)) then
          some (Sum.inr (Sum.inl (Prod.snd a_813)))
        else
          if (List.length (Prod.snd s_823) + List.length (List.drop (0 : Nat) [Prod.fst a_813])) * (16 : Nat) ≤ (17592186044416 : Nat) then
            some (Sum.inl (IntKind.wrap IntKind.i64 (Prod.fst s_823 + (1 : Int)), Prod.snd s_823 ++ List.drop (0 : Nat) [Prod.fst a_813]))
          else none
    else none
  else
    some (Sum.inr (Sum.inr (Prod.snd s_823)))

noncomputable def api_Rel__50 (l_801 : List (List (List UInt8 × List UInt8 × List UInt8))) (between_802 : List UInt8) : Option (List UInt8 × Int) :=
  bif Decidable.decide ((64 : Int) < (↑(List.length l_801) : Int)) then
    some ([], (22 : Int))
  else
    (iter (api_Rel__50_b0 (l_801) ((↑(List.length l_801) : Int))) ((0 : Int), [])).bind (Sum.elim (fun t_815 =>
      some ([], t_815)) (fun t_817 =>
      (strings_Join (List.drop (0 : Nat) t_817) (between_802)).bind fun a_818 =>
        some (a_818, (0 : Int))))

def relation_All_res (r : List UInt8 × Int) : AV := (fun (r_829 : List UInt8 × Int) => AV.tup [AV.str (Prod.fst r_829), AV.int IntKind.i64 (Prod.snd r_829)]) r

def relation_All_out (r : List UInt8 × Int) : List AO := (fun (r_829 : List UInt8 × Int) => []) r

noncomputable def relation_All_b0 (t_796 : List (List (List UInt8 × List UInt8 × List UInt8))) (t_797 : Int) (s_830 : Int) : Option ((Int) ⊕ (Unit ⊕ Unit)) :=
  bif Decidable.decide (s_830 < t_797) then
    if (0 : Int) ≤ s_830 ∧ s_830 < (↑(List.length t_796) : Int) then
      bif Decidable.decide ((64 : Int) < (↑(List.length (List.getD t_796 (Int.toNat s_830) [])) : Int)) then
        some (Sum.inr (Sum.inl ()))
      else
        some (Sum.inl (IntKind.wrap IntKind.i64 (s_830 + (1 : Int))))
    else none
  else
    some (Sum.inr (Sum.inr ()))

noncomputable def relation_All (l_794 : List (List (List UInt8 × List UInt8 × List UInt8))) : Option (List UInt8 × Int) :=
  (iter (relation_All_b0 (l_794) ((↑(List.length l_794) : Int))) ((0 : Int))).bind (Sum.elim (fun t_799 =>
    some ([], (22 : Int))) (fun t_800 =>
    (api_Rel__50 (l_794) ([(44 : UInt8), (32 : UInt8)])).bind fun a_825 =>
      some (Prod.fst a_825, Prod.snd a_825)))

def relation_List_res (r : List UInt8 × Int) : AV := (fun (r_837 : List UInt8 × Int) => AV.tup [AV.str (Prod.fst r_837), AV.int IntKind.i64 (Prod.snd r_837)]) r

def relation_List_out (r : List UInt8 × Int) : List AO := (fun (r_837 : List UInt8 × Int) => []) r

noncomputable def relation_List (l_833 : List (List UInt8 × List UInt8 × List UInt8)) : Option (List UInt8 × Int) :=
  (api_Rel_ (l_833) ([(44 : UInt8), (32 : UInt8)])).bind fun a_834 =>
    some (Prod.fst a_834, Prod.snd a_834)

def pack_file_res (r : Bool) : AV := (fun (r_852 : Bool) => AV.bool r_852) r

def pack_file_out (r : Bool) : List AO := (fun (r_852 : Bool) => []) r

noncomputable def pack_file (f_839 : List UInt8) (f_840 : Int) (f_841 : Int) (f_842 : Int) (f_843 : Int) (f_844 : List UInt8) (f_845 : Bool) : Option (Bool) :=
  Option.bind (α := Unit ⊕ Unit) (
    (pack_place (f_839)).bind fun a_846 =>
      bif !a_846 then
        some (Sum.inl ())
      else
        (bits_Right (f_841) (f_842) (f_843)).bind fun a_847 =>
          bif !a_847 then
            some (Sum.inl ())
          else
            bif f_845 then
              bif !Decidable.decide (f_840 = (2 : Int)) then
                some (Sum.inl ())
              else
                some (Sum.inr ())
            else
              some (Sum.inr ())) (Sum.elim (fun t_848 =>
    some (Bool.false)) (fun t_849 =>
    bif Decidable.decide (f_840 = (1 : Int)) then
      some (Decidable.decide (f_844 = []))
    else
      bif Decidable.decide (f_840 = (2 : Int)) then
        some (Decidable.decide ((↑(List.length f_844) : Int) ≤ (4096 : Int)))
      else
        bif Decidable.decide (f_840 = (3 : Int)) then
          bif Decidable.decide ((1 : Int) ≤ (↑(List.length f_844) : Int)) then
            some (Decidable.decide ((↑(List.length f_844) : Int) ≤ (200 : Int)))
          else
            some (Bool.false)
        else
          some (Bool.false)))

def pack_files_res (r : Bool) : AV := (fun (r_885 : Bool) => AV.bool r_885) r

def pack_files_out (r : Bool) : List AO := (fun (r_885 : Bool) => []) r

noncomputable def pack_files_b0 (t_866 : List (List UInt8 × Int × (Int × Int × Int) × List UInt8 × Bool)) (t_867 : Int) (o0_869 : List UInt8) (s_887 : Int) : Option ((Int) ⊕ (Unit ⊕ Unit)) :=
  bif Decidable.decide (s_887 < t_867) then
    if (0 : Int) ≤ s_887 ∧ s_887 < (↑(List.length t_866) : Int) then
      bif !Decidable.decide (Prod.fst (Prod.snd (List.getD t_866 (Int.toNat s_887) ([], (0 : Int), ((0 : Int), (0 : Int), (0 : Int)), [], Bool.false))) = (1 : Int)) then
        (path_Under (Prod.fst (List.getD t_866 (Int.toNat s_887) ([], (0 : Int), ((0 : Int), (0 : Int), (0 : Int)), [], Bool.false))) (o0_869)).bind fun a_876 =>
          bif a_876 then
            some (Sum.inr (Sum.inl ()))
          else
            some (Sum.inl (IntKind.wrap IntKind.i64 (s_887 + (1 : Int))))
      else
        some (Sum.inl (IntKind.wrap IntKind.i64 (s_887 + (1 : Int))))
    else none
  else
    some (Sum.inr (Sum.inr ()))

noncomputable def pack_files_b1 (l_855 : List (List UInt8 × Int × (Int × Int × Int) × List UInt8 × Bool)) (t_856 : List (List UInt8 × Int × (Int × Int × Int) × List UInt8 × Bool)) (t_857 : Int) (s_886 : Int) : Option ((Int) ⊕ (Unit ⊕ Unit)) :=
  bif Decidable.decide (s_886 < t_857) then
    if (0 : Int) ≤ s_886 ∧ s_886 < (↑(List.length t_856) : Int) then
      Option.bind (α := Unit ⊕ Unit) (
        (pack_file (Prod.fst (List.getD t_856 (Int.toNat s_886) ([], (0 : Int), ((0 : Int), (0 : Int), (0 : Int)), [], Bool.false))) (Prod.fst (Prod.snd (List.getD t_856 (Int.toNat s_886) ([], (0 : Int), ((0 : Int), (0 : Int), (0 : Int)), [], Bool.false)))) (Prod.fst (Prod.fst (Prod.snd (Prod.snd (List.getD t_856 (Int.toNat s_886) ([], (0 : Int), ((0 : Int), (0 : Int), (0 : Int)), [], Bool.false)))))) (Prod.fst (Prod.snd (Prod.fst (Prod.snd (Prod.snd (List.getD t_856 (Int.toNat s_886) ([], (0 : Int), ((0 : Int), (0 : Int), (0 : Int)), [], Bool.false))))))) (Prod.snd (Prod.snd (Prod.fst (Prod.snd (Prod.snd (List.getD t_856 (Int.toNat s_886) ([], (0 : Int), ((0 : Int), (0 : Int), (0 : Int)), [], Bool.false))))))) (Prod.fst (Prod.snd (Prod.snd (Prod.snd (List.getD t_856 (Int.toNat s_886) ([], (0 : Int), ((0 : Int), (0 : Int), (0 : Int)), [], Bool.false)))))) (Prod.snd (Prod.snd (Prod.snd (Prod.snd (List.getD t_856 (Int.toNat s_886) ([], (0 : Int), ((0 : Int), (0 : Int), (0 : Int)), [], Bool.false))))))).bind fun a_859 =>
          bif !a_859 then
            some (Sum.inl ())
          else
            bif Decidable.decide ((0 : Int) < s_886) then
              if (0 : Int) ≤ IntKind.wrap IntKind.i64 (s_886 - (1 : Int)) ∧ IntKind.wrap IntKind.i64 (s_886 - (1 : Int)) < (↑(List.length l_855) : Int) then
                bif !Go.Op.bytesLess (Prod.fst (List.getD l_855 (Int.toNat (IntKind.wrap IntKind.i64 (s_886 - (1 : Int)))) ([], (0 : Int), ((0 : Int), (0 : Int), (0 : Int)), [], Bool.false))) (Prod.fst (List.getD t_856 (Int.toNat s_886) ([], (0 : Int), ((0 : Int), (0 : Int), (0 : Int)), [], Bool.false))) then
                  some (Sum.inl ())
                else
                  some (Sum.inr ())
              else none
            else
              some (Sum.inr ())) (Sum.elim (fun t_860 =>
        some (Sum.inr (Sum.inl ()))) (fun t_861 =>
        if (0 : Int) ≤ (0 : Int) ∧ (0 : Int) ≤ s_886 ∧ s_886 ≤ (↑(List.length l_855) : Int) then
          (iter (pack_files_b0 (List.drop (Int.toNat (0 : Int)) (List.take (Int.toNat s_886) l_855)) ((↑(List.length (List.drop (Int.toNat (0 : Int)) (List.take (Int.toNat s_886) l_855))) : Int)) (Prod.fst (List.getD t_856 (Int.toNat s_886) ([], (0 : Int), ((0 : Int), (0 : Int), (0 : Int)), [], Bool.false)))) ((0 : Int))).bind (Sum.elim (fun t_877 =>
            some (Sum.inr (Sum.inl ()))) (fun t_878 =>
            some (Sum.inl (IntKind.wrap IntKind.i64 (s_886 + (1 : Int))))))
        else none))
    else none
  else
    some (Sum.inr (Sum.inr ()))

noncomputable def pack_files (l_854 : List (List UInt8 × Int × (Int × Int × Int) × List UInt8 × Bool)) : Option (Bool) :=
  bif Decidable.decide ((32 : Int) < (↑(List.length l_854) : Int)) then
    some (Bool.false)
  else
    (iter (pack_files_b1 (l_854) (l_854) ((↑(List.length l_854) : Int))) ((0 : Int))).bind (Sum.elim (fun t_881 =>
      some (Bool.false)) (fun t_882 =>
      some (Bool.true)))

def pack_interests_1_res (r : Bool × List UInt8 × List UInt8 × Bool) : AV := (fun (r_921 : Bool × List UInt8 × List UInt8 × Bool) => AV.bool (Prod.fst r_921)) r

def pack_interests_1_out (r : Bool × List UInt8 × List UInt8 × Bool) : List AO := (fun (r_921 : Bool × List UInt8 × List UInt8 × Bool) => [AO.box [AV.str (Prod.fst (Prod.snd r_921)), AV.str (Prod.fst (Prod.snd (Prod.snd r_921))), AV.bool (Prod.snd (Prod.snd (Prod.snd r_921)))]]) r

noncomputable def pack_interests_1 (y_911 : List UInt8) (y_912 : List UInt8) (y_913 : Bool) (o0_914 : List UInt8) (o0_915 : List UInt8) (o0_916 : Bool) : Option (Bool × List UInt8 × List UInt8 × Bool) :=
  some (Decidable.decide (y_911 = o0_914), o0_914, o0_915, o0_916)

def api_Interest__68_res (r : Int × List UInt8 × List UInt8 × Bool) : AV := (fun (r_937 : Int × List UInt8 × List UInt8 × Bool) => AV.int IntKind.i64 (Prod.fst r_937)) r

def api_Interest__68_out (r : Int × List UInt8 × List UInt8 × Bool) : List AO := (fun (r_937 : Int × List UInt8 × List UInt8 × Bool) => [AO.box [AV.str (Prod.fst (Prod.snd r_937)), AV.str (Prod.fst (Prod.snd (Prod.snd r_937))), AV.bool (Prod.snd (Prod.snd (Prod.snd r_937)))]]) r

noncomputable def api_Interest__68_b0 (s_905 : List (List UInt8 × List UInt8 × Bool)) (t_906 : Int) (s_938 : Int × List UInt8 × List UInt8 × Bool) : Option ((Int × List UInt8 × List UInt8 × Bool) ⊕ (Int × List UInt8 × List UInt8 × Bool ⊕ List UInt8 × List UInt8 × Bool)) :=
  bif Decidable.decide (Prod.fst s_938 < t_906) then
    if (0 : Int) ≤ Prod.fst s_938 ∧ Prod.fst s_938 < (↑(List.length s_905) : Int) then
      (pack_interests_1 (Prod.fst (List.getD s_905 (Int.toNat (Prod.fst s_938)) ([], [], Bool.false))) (Prod.fst (Prod.snd (List.getD s_905 (Int.toNat (Prod.fst s_938)) ([], [], Bool.false)))) (Prod.snd (Prod.snd (List.getD s_905 (Int.toNat (Prod.fst s_938)) ([], [], Bool.false)))) (Prod.fst (Prod.snd s_938)) (Prod.fst (Prod.snd (Prod.snd s_938))) (Prod.snd (Prod.snd (Prod.snd s_938)))).bind fun a_922 =>
        bif Prod.fst a_922 then
          some (Sum.inr (Sum.inl (Prod.fst s_938, Prod.fst (Prod.snd a_922), Prod.fst (Prod.snd (Prod.snd a_922)), Prod.snd (Prod.snd (Prod.snd a_922)))))
        else
          some (Sum.inl (IntKind.wrap IntKind.i64 (Prod.fst s_938 + (1 : Int)), Prod.fst (Prod.snd a_922), Prod.fst (Prod.snd (Prod.snd a_922)), Prod.snd (Prod.snd (Prod.snd a_922))))
    else none
  else
    some (Sum.inr (Sum.inr (Prod.fst (Prod.snd s_938), Prod.fst (Prod.snd (Prod.snd s_938)), Prod.snd (Prod.snd (Prod.snd s_938)))))

noncomputable def api_Interest__68 (s_901 : List (List UInt8 × List UInt8 × Bool)) (o0_902 : List UInt8) (o0_903 : List UInt8) (o0_904 : Bool) : Option (Int × List UInt8 × List UInt8 × Bool) :=
  (iter (api_Interest__68_b0 (s_901) ((↑(List.length s_901) : Int))) ((0 : Int), o0_902, o0_903, o0_904)).bind (Sum.elim (fun t_927 =>
    some (Prod.fst t_927, Prod.fst (Prod.snd t_927), Prod.fst (Prod.snd (Prod.snd t_927)), Prod.snd (Prod.snd (Prod.snd t_927)))) (fun t_931 =>
    some ((-1 : Int), Prod.fst t_931, Prod.fst (Prod.snd t_931), Prod.snd (Prod.snd t_931))))

def api_Interest__res (r : Bool × List UInt8 × List UInt8 × Bool) : AV := (fun (r_945 : Bool × List UInt8 × List UInt8 × Bool) => AV.bool (Prod.fst r_945)) r

def api_Interest__out (r : Bool × List UInt8 × List UInt8 × Bool) : List AO := (fun (r_945 : Bool × List UInt8 × List UInt8 × Bool) => [AO.box [AV.str (Prod.fst (Prod.snd r_945)), AV.str (Prod.fst (Prod.snd (Prod.snd r_945))), AV.bool (Prod.snd (Prod.snd (Prod.snd r_945)))]]) r

noncomputable def api_Interest_ (s_897 : List (List UInt8 × List UInt8 × Bool)) (o0_898 : List UInt8) (o0_899 : List UInt8) (o0_900 : Bool) : Option (Bool × List UInt8 × List UInt8 × Bool) :=
  (api_Interest__68 (s_897) (o0_898) (o0_899) (o0_900)).bind fun a_940 =>
    some (Decidable.decide ((0 : Int) ≤ Prod.fst a_940), Prod.fst (Prod.snd a_940), Prod.fst (Prod.snd (Prod.snd a_940)), Prod.snd (Prod.snd (Prod.snd a_940)))

def pack_interests_res (r : Bool) : AV := (fun (r_951 : Bool) => AV.bool r_951) r

def pack_interests_out (r : Bool) : List AO := (fun (r_951 : Bool) => []) r

noncomputable def pack_interests_b0 (l_892 : List (List UInt8 × List UInt8 × Bool)) (t_893 : List (List UInt8 × List UInt8 × Bool)) (t_894 : Int) (s_952 : Int) : Option ((Int) ⊕ (Unit ⊕ Unit)) :=
  bif Decidable.decide (s_952 < t_894) then
    if (0 : Int) ≤ s_952 ∧ s_952 < (↑(List.length t_893) : Int) then
      (status_Trigger (Prod.fst (List.getD t_893 (Int.toNat s_952) ([], [], Bool.false)))).bind fun a_896 =>
        bif !a_896 then
          some (Sum.inr (Sum.inl ()))
        else
          if (0 : Int) ≤ (0 : Int) ∧ (0 : Int) ≤ s_952 ∧ s_952 ≤ (↑(List.length l_892) : Int) then
            (api_Interest_ (List.drop (Int.toNat (0 : Int)) (List.take (Int.toNat s_952) l_892)) (Prod.fst (List.getD t_893 (Int.toNat s_952) ([], [], Bool.false))) (Prod.fst (Prod.snd (List.getD t_893 (Int.toNat s_952) ([], [], Bool.false)))) (Prod.snd (Prod.snd (List.getD t_893 (Int.toNat s_952) ([], [], Bool.false))))).bind fun a_946 =>
              bif Prod.fst a_946 then
                some (Sum.inr (Sum.inl ()))
              else
                some (Sum.inl (IntKind.wrap IntKind.i64 (s_952 + (1 : Int))))
          else none
    else none
  else
    some (Sum.inr (Sum.inr ()))

noncomputable def pack_interests (l_891 : List (List UInt8 × List UInt8 × Bool)) : Option (Bool) :=
  (iter (pack_interests_b0 (l_891) (l_891) ((↑(List.length l_891) : Int))) ((0 : Int))).bind (Sum.elim (fun t_947 =>
    some (Bool.false)) (fun t_948 =>
    some (Decidable.decide ((↑(List.length l_891) : Int) ≤ (8 : Int)))))

def pack_Right_1_res (r : Bool) : AV := (fun (r_980 : Bool) => AV.bool r_980) r

def pack_Right_1_out (r : Bool) : List AO := (fun (r_980 : Bool) => []) r

noncomputable def pack_Right_1 (s_977 : List UInt8) : Option (Bool) :=
  (path_Name (s_977)).bind fun a_978 =>
    some (!a_978)

def slices_IndexFunc___string_string__res (r : Int) : AV := (fun (r_987 : Int) => AV.int IntKind.i64 r_987) r

def slices_IndexFunc___string_string__out (r : Int) : List AO := (fun (r_987 : Int) => []) r

noncomputable def slices_IndexFunc___string_string__b0 (s_974 : List (List UInt8)) (t_975 : Int) (s_988 : Int) : Option ((Int) ⊕ (Int ⊕ Unit)) :=
  bif Decidable.decide (s_988 < t_975) then
    if (0 : Int) ≤ s_988 ∧ s_988 < (↑(List.length s_974) : Int) then
      (pack_Right_1 (List.getD s_974 (Int.toNat s_988) [])).bind fun a_981 =>
        bif a_981 then
          some (Sum.inr (Sum.inl (s_988)))
        else
          some (Sum.inl (IntKind.wrap IntKind.i64 (s_988 + (1 : Int))))
    else none
  else
    some (Sum.inr (Sum.inr ()))

noncomputable def slices_IndexFunc___string_string_ (s_973 : List (List UInt8)) : Option (Int) :=
  (iter (slices_IndexFunc___string_string__b0 (s_973) ((↑(List.length s_973) : Int))) ((0 : Int))).bind (Sum.elim (fun t_983 =>
    some (t_983)) (fun t_984 =>
    some ((-1 : Int))))

def slices_ContainsFunc___string_string__res (r : Bool) : AV := (fun (r_992 : Bool) => AV.bool r_992) r

def slices_ContainsFunc___string_string__out (r : Bool) : List AO := (fun (r_992 : Bool) => []) r

noncomputable def slices_ContainsFunc___string_string_ (s_972 : List (List UInt8)) : Option (Bool) :=
  (slices_IndexFunc___string_string_ (s_972)).bind fun a_990 =>
    some (Decidable.decide ((0 : Int) ≤ a_990))

def api_Act__55_res (r : Int) : AV := (fun (r_1021 : Int) => AV.int IntKind.i64 r_1021) r

def api_Act__55_out (r : Int) : List AO := (fun (r_1021 : Int) => []) r

noncomputable def api_Act__55_b0 (s_1012 : List (Int × List UInt8 × List UInt8 × List UInt8 × (Int × Int × Int) × Int × Bool × Bool × List (List UInt8 × List UInt8) × List (List UInt8))) (t_1013 : Int) (s_1022 : Int) : Option ((Int) ⊕ (Int ⊕ Unit)) :=
  bif Decidable.decide (s_1022 < t_1013) then
    if (0 : Int) ≤ s_1022 ∧ s_1022 < (↑(List.length s_1012) : Int) then
      (pack_odd (Prod.fst (List.getD s_1012 (Int.toNat s_1022) ((0 : Int), [], [], [], ((0 : Int), (0 : Int), (0 : Int)), (0 : Int), Bool.false, Bool.false, [], []))) (Prod.fst (Prod.snd (List.getD s_1012 (Int.toNat s_1022) ((0 : Int), [], [], [], ((0 : Int), (0 : Int), (0 : Int)), (0 : Int), Bool.false, Bool.false, [], [])))) (Prod.fst (Prod.snd (Prod.snd (List.getD s_1012 (Int.toNat s_1022) ((0 : Int), [], [], [], ((0 : Int), (0 : Int), (0 : Int)), (0 : Int), Bool.false, Bool.false, [], []))))) (Prod.fst (Prod.snd (Prod.snd (Prod.snd (List.getD s_1012 (Int.toNat s_1022) ((0 : Int), [], [], [], ((0 : Int), (0 : Int), (0 : Int)), (0 : Int), Bool.false, Bool.false, [], [])))))) (Prod.fst (Prod.fst (Prod.snd (Prod.snd (Prod.snd (Prod.snd (List.getD s_1012 (Int.toNat s_1022) ((0 : Int), [], [], [], ((0 : Int), (0 : Int), (0 : Int)), (0 : Int), Bool.false, Bool.false, [], [])))))))) (Prod.fst (Prod.snd (Prod.fst (Prod.snd (Prod.snd (Prod.snd (Prod.snd (List.getD s_1012 (Int.toNat s_1022) ((0 : Int), [], [], [], ((0 : Int), (0 : Int), (0 : Int)), (0 : Int), Bool.false, Bool.false, [], []))))))))) (Prod.snd (Prod.snd (Prod.fst (Prod.snd (Prod.snd (Prod.snd (Prod.snd (List.getD s_1012 (Int.toNat s_1022) ((0 : Int), [], [], [], ((0 : Int), (0 : Int), (0 : Int)), (0 : Int), Bool.false, Bool.false, [], []))))))))) (Prod.fst (Prod.snd (Prod.snd (Prod.snd (Prod.snd (Prod.snd (List.getD s_1012 (Int.toNat s_1022) ((0 : Int), [], [], [], ((0 : Int), (0 : Int), (0 : Int)), (0 : Int), Bool.false, Bool.false, [], [])))))))) (Prod.fst (Prod.snd (Prod.snd (Prod.snd (Prod.snd (Prod.snd (Prod.snd (List.getD s_1012 (Int.toNat s_1022) ((0 : Int), [], [], [], ((0 : Int), (0 : Int), (0 : Int)), (0 : Int), Bool.false, Bool.false, [], []))))))))) (Prod.fst (Prod.snd (Prod.snd (Prod.snd (Prod.snd (Prod.snd (Prod.snd (Prod.snd (List.getD s_1012 (Int.toNat s_1022) ((0 : Int), [], [], [], ((0 : Int), (0 : Int), (0 : Int)), (0 : Int), Bool.false, Bool.false, [], [])))))))))) (Prod.fst (Prod.snd (Prod.snd (Prod.snd (Prod.snd (Prod.snd (Prod.snd (Prod.snd (Prod.snd (List.getD s_1012 (Int.toNat s_1022) ((0 : Int), [], [], [], ((0 : Int), (0 : Int), (0 : Int)), (0 : Int), Bool.false, Bool.false, [], []))))))))))) (Prod.snd (Prod.snd (Prod.snd (Prod.snd (Prod.snd (Prod.snd (Prod.snd (Prod.snd (Prod.snd (List.getD s_1012 (Int.toNat s_1022) ((0 : Int), [], [], [], ((0 : Int), (0 : Int), (0 : Int)), (0 : Int), Bool.false, Bool.false, [], [])))))))))))).bind fun a_1015 =>
        bif a_1015 then
          some (Sum.inr (Sum.inl (s_1022)))
        else
          some (Sum.inl (IntKind.wrap IntKind.i64 (s_1022 + (1 : Int))))
    else none
  else
    some (Sum.inr (Sum.inr ()))

noncomputable def api_Act__55 (s_1011 : List (Int × List UInt8 × List UInt8 × List UInt8 × (Int × Int × Int) × Int × Bool × Bool × List (List UInt8 × List UInt8) × List (List UInt8))) : Option (Int) :=
  (iter (api_Act__55_b0 (s_1011) ((↑(List.length s_1011) : Int))) ((0 : Int))).bind (Sum.elim (fun t_1017 =>
    some (t_1017)) (fun t_1018 =>
    some ((-1 : Int))))

def api_Act__res (r : Bool) : AV := (fun (r_1026 : Bool) => AV.bool r_1026) r

def api_Act__out (r : Bool) : List AO := (fun (r_1026 : Bool) => []) r

noncomputable def api_Act_ (s_1010 : List (Int × List UInt8 × List UInt8 × List UInt8 × (Int × Int × Int) × Int × Bool × Bool × List (List UInt8 × List UInt8) × List (List UInt8))) : Option (Bool) :=
  (api_Act__55 (s_1010)).bind fun a_1024 =>
    some (Decidable.decide ((0 : Int) ≤ a_1024))

def pack_Right_res (r : Bool) : AV := (fun (r_1035 : Bool) => AV.bool r_1035) r

def pack_Right_out (r : Bool) : List AO := (fun (r_1035 : Bool) => []) r

noncomputable def pack_Right_b0 (t_994 : List (Int × List UInt8 × List UInt8 × List UInt8 × (Int × Int × Int) × Int × Bool × Bool × List (List UInt8 × List UInt8) × List (List UInt8))) (t_995 : List (Int × List UInt8 × List UInt8 × List UInt8 × (Int × Int × Int) × Int × Bool × Bool × List (List UInt8 × List UInt8) × List (List UInt8))) (t_996 : List (Int × List UInt8 × List UInt8 × List UInt8 × (Int × Int × Int) × Int × Bool × Bool × List (List UInt8 × List UInt8) × List (List UInt8))) (t_997 : List (Int × List UInt8 × List UInt8 × List UInt8 × (Int × Int × Int) × Int × Bool × Bool × List (List UInt8 × List UInt8) × List (List UInt8))) (s_1036 : Int) : Option ((Int) ⊕ (Unit ⊕ Unit)) :=
  bif Decidable.decide (s_1036 < (4 : Int)) then
    if (0 : Int) ≤ s_1036 ∧ s_1036 < (↑(List.length ((fun (x : List (Ty.T (Ty.list (Ty.prod (Ty.int IntKind.i64) (Ty.prod Ty.str (Ty.prod Ty.str (Ty.prod Ty.str (Ty.prod (Ty.prod (Ty.int IntKind.i64) (Ty.prod (Ty.int IntKind.i64) (Ty.int IntKind.i64))) (Ty.prod (Ty.int IntKind.i64) (Ty.prod Ty.bool (Ty.prod Ty.bool (Ty.prod (Ty.list (Ty.prod Ty.str Ty.str)) (Ty.list Ty.str))))))))))))) => x) [t_994, t_995, t_996, t_997])) : Int) then
      bif Decidable.decide ((6 : Int) < (↑(List.length (List.getD ((fun (x : List (Ty.T (Ty.list (Ty.prod (Ty.int IntKind.i64) (Ty.prod Ty.str (Ty.prod Ty.str (Ty.prod Ty.str (Ty.prod (Ty.prod (Ty.int IntKind.i64) (Ty.prod (Ty.int IntKind.i64) (Ty.int IntKind.i64))) (Ty.prod (Ty.int IntKind.i64) (Ty.prod Ty.bool (Ty.prod Ty.bool (Ty.prod (Ty.list (Ty.prod Ty.str Ty.str)) (Ty.list Ty.str))))))))))))) => x) [t_994, t_995, t_996, t_997]) (Int.toNat s_1036) [])) : Int)) then
        some (Sum.inr (Sum.inl ()))
      else
        (api_Act_ (List.getD ((fun (x : List (Ty.T (Ty.list (Ty.prod (Ty.int IntKind.i64) (Ty.prod Ty.str (Ty.prod Ty.str (Ty.prod Ty.str (Ty.prod (Ty.prod (Ty.int IntKind.i64) (Ty.prod (Ty.int IntKind.i64) (Ty.int IntKind.i64))) (Ty.prod (Ty.int IntKind.i64) (Ty.prod Ty.bool (Ty.prod Ty.bool (Ty.prod (Ty.list (Ty.prod Ty.str Ty.str)) (Ty.list Ty.str))))))))))))) => x) [t_994, t_995, t_996, t_997]) (Int.toNat s_1036) [])).bind fun a_1027 =>
          bif a_1027 then
            some (Sum.inr (Sum.inl ()))
          else
            some (Sum.inl (IntKind.wrap IntKind.i64 (s_1036 + (1 : Int))))
    else none
  else
    some (Sum.inr (Sum.inr ()))

noncomputable def pack_Right (x_955 : List UInt8) (x_956 : List UInt8) (x_957 : List (List (List UInt8 × List UInt8 × List UInt8))) (x_958 : List (List UInt8 × List UInt8 × List UInt8)) (x_959 : List (List UInt8)) (x_960 : List (List UInt8 × Int × (Int × Int × Int) × List UInt8 × Bool)) (x_961 : List (List UInt8 × List UInt8 × Bool)) (x_962 : List (Int × List UInt8 × List UInt8 × List UInt8 × (Int × Int × Int) × Int × Bool × Bool × List (List UInt8 × List UInt8) × List (List UInt8))) (x_963 : List (Int × List UInt8 × List UInt8 × List UInt8 × (Int × Int × Int) × Int × Bool × Bool × List (List UInt8 × List UInt8) × List (List UInt8))) (x_964 : List (Int × List UInt8 × List UInt8 × List UInt8 × (Int × Int × Int) × Int × Bool × Bool × List (List UInt8 × List UInt8) × List (List UInt8))) (x_965 : List (Int × List UInt8 × List UInt8 × List UInt8 × (Int × Int × Int) × Int × Bool × Bool × List (List UInt8 × List UInt8) × List (List UInt8))) : Option (Bool) :=
  (version_Parse (x_956)).bind fun a_966 =>
    (relation_All (x_957)).bind fun a_967 =>
      (relation_List (x_958)).bind fun a_968 =>
        Option.bind (α := Unit ⊕ Unit) (
          (path_Name (x_955)).bind fun a_969 =>
            bif !a_969 then
              some (Sum.inl ())
            else
              bif !Decidable.decide (Prod.snd (Prod.snd (Prod.snd a_966)) = (0 : Int)) then
                some (Sum.inl ())
              else
                bif !Decidable.decide (Prod.snd a_967 = (0 : Int)) then
                  some (Sum.inl ())
                else
                  bif !Decidable.decide (Prod.snd a_968 = (0 : Int)) then
                    some (Sum.inl ())
                  else
                    bif Decidable.decide ((16 : Int) < (↑(List.length x_959) : Int)) then
                      some (Sum.inl ())
                    else
                      some (Sum.inr ())) (Sum.elim (fun t_970 =>
          some (Bool.false)) (fun t_971 =>
          (slices_ContainsFunc___string_string_ (x_959)).bind fun a_993 =>
            bif a_993 then
              some (Bool.false)
            else
              (iter (pack_Right_b0 (x_962) (x_963) (x_964) (x_965)) ((0 : Int))).bind (Sum.elim (fun t_1028 =>
                some (Bool.false)) (fun t_1029 =>
                (pack_files (x_960)).bind fun a_1030 =>
                  bif a_1030 then
                    (pack_interests (x_961)).bind fun a_1031 =>
                      some (a_1031)
                  else
                    some (Bool.false)))))

def cellarerlaw19_awake_res (r : Bool) : AV := (fun (r_1042 : Bool) => AV.bool r_1042) r

def cellarerlaw19_awake_out (r : Bool) : List AO := (fun (r_1042 : Bool) => []) r

noncomputable def cellarerlaw19_awake  : Option (Bool) :=
  (pack_Right ([(97 : UInt8)]) ([(49 : UInt8)]) ([]) ([]) ([]) ([]) ([]) ([]) ([]) ([]) ([])).bind fun a_1038 =>
    bif a_1038 then
      (pack_Reserved ([(47 : UInt8), (118 : UInt8), (97 : UInt8), (114 : UInt8), (47 : UInt8), (108 : UInt8), (105 : UInt8), (98 : UInt8), (47 : UInt8), (100 : UInt8), (112 : UInt8), (107 : UInt8), (103 : UInt8), (47 : UInt8), (115 : UInt8), (116 : UInt8), (97 : UInt8), (116 : UInt8), (117 : UInt8), (115 : UInt8)])).bind fun a_1039 =>
        bif a_1039 then
          (pack_Act ((10 : Int)) ([(116 : UInt8)]) ([]) ([]) ((0 : Int)) ((0 : Int)) ((0 : Int)) ((0 : Int)) (Bool.false) (Bool.false) ([]) ([])).bind fun a_1040 =>
            some (a_1040)
        else
          some (Bool.false)
    else
      some (Bool.false)

def cellarerlaw19_PackReserved_res (r : Bool) : AV := (fun (r_1050 : Bool) => AV.bool r_1050) r

def cellarerlaw19_PackReserved_out (r : Bool) : List AO := (fun (r_1050 : Bool) => []) r

noncomputable def cellarerlaw19_PackReserved (p_1044 : List UInt8) : Option (Bool) :=
  bif Decidable.decide ((1000 : Int) < (↑(List.length p_1044) : Int)) then
    (cellarerlaw19_awake ).bind fun a_1045 =>
      some (a_1045)
  else
    (pack_Reserved (p_1044)).bind fun a_1046 =>
      (cellarerref19_Reserved (p_1044)).bind fun a_1047 =>
        bif Decidable.decide (a_1046 = a_1047) then
          (cellarerlaw19_awake ).bind fun a_1048 =>
            some (a_1048)
        else
          some (Bool.false)

def cellarerlaw19_PackActs_res (r : Bool) : AV := (fun (r_1070 : Bool) => AV.bool r_1070) r

def cellarerlaw19_PackActs_out (r : Bool) : List AO := (fun (r_1070 : Bool) => []) r

noncomputable def cellarerlaw19_PackActs (a_1052 : Int) (a_1053 : List UInt8) (a_1054 : List UInt8) (a_1055 : List UInt8) (a_1056 : Int) (a_1057 : Int) (a_1058 : Int) (a_1059 : Int) (a_1060 : Bool) (a_1061 : Bool) (a_1062 : List (List UInt8 × List UInt8)) (a_1063 : List (List UInt8)) : Option (Bool) :=
  (cellarerlaw19_FewActs (List.drop (0 : Nat) [(a_1052, a_1053, a_1054, a_1055, (a_1056, a_1057, a_1058), a_1059, a_1060, a_1061, a_1062, a_1063)]) ((1 : Int))).bind fun a_1064 =>
    bif !a_1064 then
      (cellarerlaw19_awake ).bind fun a_1065 =>
        some (a_1065)
    else
      (pack_Act (a_1052) (a_1053) (a_1054) (a_1055) (a_1056) (a_1057) (a_1058) (a_1059) (a_1060) (a_1061) (a_1062) (a_1063)).bind fun a_1066 =>
        (cellarerref19_Act (a_1052) (a_1053) (a_1054) (a_1055) (a_1056) (a_1057) (a_1058) (a_1059) (a_1060) (a_1061) (a_1062) (a_1063)).bind fun a_1067 =>
          bif Decidable.decide (a_1066 = a_1067) then
            (cellarerlaw19_awake ).bind fun a_1068 =>
              some (a_1068)
          else
            some (Bool.false)

end Go.Cellar
