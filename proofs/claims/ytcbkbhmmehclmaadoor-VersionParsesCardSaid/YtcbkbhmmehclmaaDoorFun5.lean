/- The program's functions, as plain Lean functions: printed by a program out of the translation. No condition. -/
import Derived.Test.YtcbkbhmmehclmaaDoorAbs21
set_option maxRecDepth 4000
set_option linter.unusedVariables false
namespace Go.Cellar
open Go

def stringslite_IndexByte_res (r : Int) : AV := (fun (r_7 : Int) => AV.int IntKind.i64 r_7) r

def stringslite_IndexByte_out (r : Int) : List AO := (fun (r_7 : Int) => []) r

noncomputable def stringslite_IndexByte (s_4 : List UInt8) (c_5 : Int) : Option (Int) :=
  if (0 : Int) ≤ c_5 ∧ c_5 < (256 : Int) then
    some (idxByte c_5 s_4 (0 : Int))
  else none

def strings_IndexByte_res (r : Int) : AV := (fun (r_10 : Int) => AV.int IntKind.i64 r_10) r

def strings_IndexByte_out (r : Int) : List AO := (fun (r_10 : Int) => []) r

noncomputable def strings_IndexByte (s_2 : List UInt8) (c_3 : Int) : Option (Int) :=
  (stringslite_IndexByte (s_2) (c_3)).bind fun a_8 =>
    some (a_8)

def version_digit_res (r : Bool) : AV := (fun (r_21 : Bool) => AV.bool r_21) r

def version_digit_out (r : Bool) : List AO := (fun (r_21 : Bool) => []) r

noncomputable def version_digit (c_19 : Int) : Option (Bool) :=
  bif Decidable.decide ((48 : Int) ≤ c_19) then
    some (Decidable.decide (c_19 ≤ (57 : Int)))
  else
    some (Bool.false)

def version_epoch_res (r : Int × Bool) : AV := (fun (r_30 : Int × Bool) => AV.tup [AV.int IntKind.i64 (Prod.fst r_30), AV.bool (Prod.snd r_30)]) r

def version_epoch_out (r : Int × Bool) : List AO := (fun (r_30 : Int × Bool) => []) r

noncomputable def version_epoch_b0 (s_15 : List UInt8) (t_17 : Int) (s_31 : Int × Int) : Option ((Int × Int) ⊕ (Unit ⊕ Int)) :=
  bif Decidable.decide (Prod.snd s_31 < t_17) then
    if (0 : Int) ≤ Prod.snd s_31 ∧ Prod.snd s_31 < (↑(List.length s_15) : Int) then
      (version_digit ((↑(UInt8.toNat (List.getD s_15 (Int.toNat (Prod.snd s_31)) (0 : UInt8))) : Int))).bind fun a_22 =>
        bif !a_22 then
          some (Sum.inr (Sum.inl ()))
        else
          if (0 : Int) ≤ Prod.snd s_31 ∧ Prod.snd s_31 < (↑(List.length s_15) : Int) then
            some (Sum.inl (IntKind.wrap IntKind.i64 (IntKind.wrap IntKind.i64 (Prod.fst s_31 * (10 : Int)) + IntKind.wrap IntKind.i64 (IntKind.wrap IntKind.u8 ((↑(UInt8.toNat (List.getD s_15 (Int.toNat (Prod.snd s_31)) (0 : UInt8))) : Int) - (48 : Int)))), IntKind.wrap IntKind.i64 (Prod.snd s_31 + (1 : Int))))
          else none
    else none
  else
    some (Sum.inr (Sum.inr (Prod.fst s_31)))

noncomputable def version_epoch (s_12 : List UInt8) : Option (Int × Bool) :=
  Option.bind (α := Unit ⊕ Unit) (
    bif Decidable.decide ((↑(List.length s_12) : Int) < (1 : Int)) then
      some (Sum.inl ())
    else
      bif Decidable.decide ((9 : Int) < (↑(List.length s_12) : Int)) then
        some (Sum.inl ())
      else
        some (Sum.inr ())) (Sum.elim (fun t_13 =>
    some ((0 : Int), Bool.false)) (fun t_14 =>
    (iter (version_epoch_b0 (s_12) ((↑(List.length s_12) : Int))) ((0 : Int), (0 : Int))).bind (Sum.elim (fun t_23 =>
      some ((0 : Int), Bool.false)) (fun t_25 =>
      some (t_25, Bool.true)))))

def bytealg_LastIndexByteString_res (r : Int) : AV := (fun (r_51 : Int) => AV.int IntKind.i64 r_51) r

def bytealg_LastIndexByteString_out (r : Int) : List AO := (fun (r_51 : Int) => []) r

noncomputable def bytealg_LastIndexByteString_b0 (s_43 : List UInt8) (c_44 : Int) (s_52 : Int) : Option ((Int) ⊕ (Int ⊕ Unit)) :=
  bif Decidable.decide ((0 : Int) ≤ s_52) then
    if (0 : Int) ≤ s_52 ∧ s_52 < (↑(List.length s_43) : Int) then
      bif Decidable.decide ((↑(UInt8.toNat (List.getD s_43 (Int.toNat s_52) (0 : UInt8))) : Int) = c_44) then
        some (Sum.inr (Sum.inl (s_52)))
      else
        some (Sum.inl (IntKind.wrap IntKind.i64 (s_52 - (1 : Int))))
    else none
  else
    some (Sum.inr (Sum.inr ()))

noncomputable def bytealg_LastIndexByteString (s_41 : List UInt8) (c_42 : Int) : Option (Int) :=
  (iter (bytealg_LastIndexByteString_b0 (s_41) (c_42)) (IntKind.wrap IntKind.i64 ((↑(List.length s_41) : Int) - (1 : Int)))).bind (Sum.elim (fun t_47 =>
    some (t_47)) (fun t_48 =>
    some ((-1 : Int))))

def strings_LastIndexByte_res (r : Int) : AV := (fun (r_56 : Int) => AV.int IntKind.i64 r_56) r

def strings_LastIndexByte_out (r : Int) : List AO := (fun (r_56 : Int) => []) r

noncomputable def strings_LastIndexByte (s_39 : List UInt8) (c_40 : Int) : Option (Int) :=
  (bytealg_LastIndexByteString (s_39) (c_40)).bind fun a_54 =>
    some (a_54)

def version_letter_res (r : Bool) : AV := (fun (r_71 : Bool) => AV.bool r_71) r

def version_letter_out (r : Bool) : List AO := (fun (r_71 : Bool) => []) r

noncomputable def version_letter (c_69 : Int) : Option (Bool) :=
  bif Decidable.decide ((97 : Int) ≤ c_69) then
    bif Decidable.decide (c_69 ≤ (122 : Int)) then
      some (Bool.true)
    else
      bif Decidable.decide ((65 : Int) ≤ c_69) then
        some (Decidable.decide (c_69 ≤ (90 : Int)))
      else
        some (Bool.false)
  else
    bif Decidable.decide ((65 : Int) ≤ c_69) then
      some (Decidable.decide (c_69 ≤ (90 : Int)))
    else
      some (Bool.false)

def version_only_res (r : Bool) : AV := (fun (r_78 : Bool) => AV.bool r_78) r

def version_only_out (r : Bool) : List AO := (fun (r_78 : Bool) => []) r

noncomputable def version_only_b0 (s_64 : List UInt8) (marks_65 : List UInt8) (t_66 : Int) (s_79 : Int) : Option ((Int) ⊕ (Unit ⊕ Unit)) :=
  bif Decidable.decide (s_79 < t_66) then
    if (0 : Int) ≤ s_79 ∧ s_79 < (↑(List.length s_64) : Int) then
      (version_digit ((↑(UInt8.toNat (List.getD s_64 (Int.toNat s_79) (0 : UInt8))) : Int))).bind fun a_68 =>
        bif !a_68 then
          if (0 : Int) ≤ s_79 ∧ s_79 < (↑(List.length s_64) : Int) then
            (version_letter ((↑(UInt8.toNat (List.getD s_64 (Int.toNat s_79) (0 : UInt8))) : Int))).bind fun a_72 =>
              bif !a_72 then
                if (0 : Int) ≤ s_79 ∧ s_79 < (↑(List.length s_64) : Int) then
                  (strings_IndexByte (marks_65) ((↑(UInt8.toNat (List.getD s_64 (Int.toNat s_79) (0 : UInt8))) : Int))).bind fun a_73 =>
                    bif Decidable.decide (a_73 < (0 : Int)) then
                      some (Sum.inr (Sum.inl ()))
                    else
                      some (Sum.inl (IntKind.wrap IntKind.i64 (s_79 + (1 : Int))))
                else none
              else
                some (Sum.inl (IntKind.wrap IntKind.i64 (s_79 + (1 : Int))))
          else none
        else
          some (Sum.inl (IntKind.wrap IntKind.i64 (s_79 + (1 : Int))))
    else none
  else
    some (Sum.inr (Sum.inr ()))

noncomputable def version_only (s_62 : List UInt8) (marks_63 : List UInt8) : Option (Bool) :=
  (iter (version_only_b0 (s_62) (marks_63) ((↑(List.length s_62) : Int))) ((0 : Int))).bind (Sum.elim (fun t_74 =>
    some (Bool.false)) (fun t_75 =>
    some (Bool.true)))

def version_Parse_res (r : Int × List UInt8 × List UInt8 × Int) : AV := (fun (r_89 : Int × List UInt8 × List UInt8 × Int) => AV.tup [AV.agg [AV.int IntKind.i64 (Prod.fst r_89), AV.str (Prod.fst (Prod.snd r_89)), AV.str (Prod.fst (Prod.snd (Prod.snd r_89)))], AV.int IntKind.i64 (Prod.snd (Prod.snd (Prod.snd r_89)))]) r

def version_Parse_out (r : Int × List UInt8 × List UInt8 × Int) : List AO := (fun (r_89 : Int × List UInt8 × List UInt8 × Int) => []) r

noncomputable def version_Parse (s_1 : List UInt8) : Option (Int × List UInt8 × List UInt8 × Int) :=
  bif Decidable.decide ((80 : Int) < (↑(List.length s_1) : Int)) then
    some ((0 : Int), [], [], (8 : Int))
  else
    Option.bind (α := Unit ⊕ List UInt8 × List UInt8 × Int) (
      (strings_IndexByte (s_1) ((58 : Int))).bind fun a_11 =>
        bif Decidable.decide ((0 : Int) ≤ a_11) then
          if (0 : Int) ≤ (0 : Int) ∧ (0 : Int) ≤ a_11 ∧ a_11 ≤ (↑(List.length s_1) : Int) then
            (version_epoch (List.drop (Int.toNat (0 : Int)) (List.take (Int.toNat a_11) s_1))).bind fun a_33 =>
              bif !Prod.snd a_33 then
                some (Sum.inl ())
              else
                if (0 : Int) ≤ IntKind.wrap IntKind.i64 (a_11 + (1 : Int)) ∧ IntKind.wrap IntKind.i64 (a_11 + (1 : Int)) ≤ (↑(List.length s_1) : Int) ∧ (↑(List.length s_1) : Int) ≤ (↑(List.length s_1) : Int) then
                  some (Sum.inr ([(46 : UInt8), (43 : UInt8), (45 : UInt8), (126 : UInt8), (58 : UInt8)], List.drop (Int.toNat (IntKind.wrap IntKind.i64 (a_11 + (1 : Int)))) (List.take (Int.toNat (↑(List.length s_1) : Int)) s_1), Prod.fst a_33))
                else none
          else none
        else
          some (Sum.inr ([(46 : UInt8), (43 : UInt8), (45 : UInt8), (126 : UInt8)], s_1, (0 : Int)))) (Sum.elim (fun t_34 =>
      some ((0 : Int), [], [], (2 : Int))) (fun t_38 =>
      Option.bind (α := List UInt8 × List UInt8) (
        (strings_LastIndexByte (Prod.fst (Prod.snd t_38)) ((45 : Int))).bind fun a_57 =>
          bif Decidable.decide ((0 : Int) ≤ a_57) then
            if (0 : Int) ≤ (0 : Int) ∧ (0 : Int) ≤ a_57 ∧ a_57 ≤ (↑(List.length (Prod.fst (Prod.snd t_38))) : Int) then
              if (0 : Int) ≤ IntKind.wrap IntKind.i64 (a_57 + (1 : Int)) ∧ IntKind.wrap IntKind.i64 (a_57 + (1 : Int)) ≤ (↑(List.length (Prod.fst (Prod.snd t_38))) : Int) ∧ (↑(List.length (Prod.fst (Prod.snd t_38))) : Int) ≤ (↑(List.length (Prod.fst (Prod.snd t_38))) : Int) then
                some (List.drop (Int.toNat (0 : Int)) (List.take (Int.toNat a_57) (Prod.fst (Prod.snd t_38))), List.drop (Int.toNat (IntKind.wrap IntKind.i64 (a_57 + (1 : Int)))) (List.take (Int.toNat (↑(List.length (Prod.fst (Prod.snd t_38))) : Int)) (Prod.fst (Prod.snd t_38))))
              else none
            else none
          else
            some (Prod.fst (Prod.snd t_38), [(48 : UInt8)])) (fun t_60 =>
        bif Decidable.decide (Prod.fst t_60 = []) then
          some ((0 : Int), [], [], (2 : Int))
        else
          if (0 : Int) ≤ (0 : Int) ∧ (0 : Int) < (↑(List.length (Prod.fst t_60)) : Int) then
            (version_digit ((↑(UInt8.toNat (List.getD (Prod.fst t_60) (Int.toNat (0 : Int)) (0 : UInt8))) : Int))).bind fun a_61 =>
              bif !a_61 then
                some ((0 : Int), [], [], (2 : Int))
              else
                (version_only (Prod.fst t_60) (Prod.fst t_38)).bind fun a_81 =>
                  bif !a_81 then
                    some ((0 : Int), [], [], (2 : Int))
                  else
                    bif Decidable.decide (Prod.snd t_60 = []) then
                      some ((0 : Int), [], [], (2 : Int))
                    else
                      (version_only (Prod.snd t_60) ([(46 : UInt8), (43 : UInt8), (126 : UInt8)])).bind fun a_82 =>
                        bif !a_82 then
                          some ((0 : Int), [], [], (2 : Int))
                        else
                          some (Prod.snd (Prod.snd t_38), Prod.fst t_60, Prod.snd t_60, (0 : Int))
          else none)))

def cellarerref05_at_res (r : Int) : AV := (fun (r_104 : Int) => AV.int IntKind.i64 r_104) r

def cellarerref05_at_out (r : Int) : List AO := (fun (r_104 : Int) => []) r

noncomputable def cellarerref05_at_b0 (s_95 : List UInt8) (c_96 : Int) (last_97 : Bool) (s_105 : Int × Int) : Option ((Int × Int) ⊕ (Int)) :=
  bif Decidable.decide (Prod.snd s_105 < (↑(List.length s_95) : Int)) then
    if (0 : Int) ≤ Prod.snd s_105 ∧ Prod.snd s_105 < (↑(List.length s_95) : Int) then
      bif Decidable.decide ((↑(UInt8.toNat (List.getD s_95 (Int.toNat (Prod.snd s_105)) (0 : UInt8))) : Int) = c_96) then
        bif last_97 then
          some (Sum.inl (Prod.snd s_105, IntKind.wrap IntKind.i64 (Prod.snd s_105 + (1 : Int))))
        else
          bif Decidable.decide (Prod.fst s_105 < (0 : Int)) then
            some (Sum.inl (Prod.snd s_105, IntKind.wrap IntKind.i64 (Prod.snd s_105 + (1 : Int))))
          else
            some (Sum.inl (Prod.fst s_105, IntKind.wrap IntKind.i64 (Prod.snd s_105 + (1 : Int))))
      else
        some (Sum.inl (Prod.fst s_105, IntKind.wrap IntKind.i64 (Prod.snd s_105 + (1 : Int))))
    else none
  else
    some (Sum.inr (Prod.fst s_105))

noncomputable def cellarerref05_at (s_92 : List UInt8) (c_93 : Int) (last_94 : Bool) : Option (Int) :=
  (iter (cellarerref05_at_b0 (s_92) (c_93) (last_94)) ((-1 : Int), (0 : Int))).bind (fun t_101 =>
    some (t_101))

def cellarerref05_Digit_res (r : Bool) : AV := (fun (r_126 : Bool) => AV.bool r_126) r

def cellarerref05_Digit_out (r : Bool) : List AO := (fun (r_126 : Bool) => []) r

noncomputable def cellarerref05_Digit (c_124 : Int) : Option (Bool) :=
  bif Decidable.decide ((48 : Int) ≤ c_124) then
    some (Decidable.decide (c_124 ≤ (57 : Int)))
  else
    some (Bool.false)

def cellarerref05_Letter_res (r : Bool) : AV := (fun (r_151 : Bool) => AV.bool r_151) r

def cellarerref05_Letter_out (r : Bool) : List AO := (fun (r_151 : Bool) => []) r

noncomputable def cellarerref05_Letter (c_149 : Int) : Option (Bool) :=
  bif Decidable.decide ((97 : Int) ≤ c_149) then
    bif Decidable.decide (c_149 ≤ (122 : Int)) then
      some (Bool.true)
    else
      bif Decidable.decide ((65 : Int) ≤ c_149) then
        some (Decidable.decide (c_149 ≤ (90 : Int)))
      else
        some (Bool.false)
  else
    bif Decidable.decide ((65 : Int) ≤ c_149) then
      some (Decidable.decide (c_149 ≤ (90 : Int)))
    else
      some (Bool.false)

def cellarerref05_only_res (r : Bool) : AV := (fun (r_158 : Bool) => AV.bool r_158) r

def cellarerref05_only_out (r : Bool) : List AO := (fun (r_158 : Bool) => []) r

noncomputable def cellarerref05_only_b0 (s_145 : List UInt8) (marks_146 : List UInt8) (s_159 : Int) : Option ((Int) ⊕ (Unit ⊕ Unit)) :=
  bif Decidable.decide (s_159 < (↑(List.length s_145) : Int)) then
    if (0 : Int) ≤ s_159 ∧ s_159 < (↑(List.length s_145) : Int) then
      (cellarerref05_Digit ((↑(UInt8.toNat (List.getD s_145 (Int.toNat s_159) (0 : UInt8))) : Int))).bind fun a_148 =>
        bif !a_148 then
          if (0 : Int) ≤ s_159 ∧ s_159 < (↑(List.length s_145) : Int) then
            (cellarerref05_Letter ((↑(UInt8.toNat (List.getD s_145 (Int.toNat s_159) (0 : UInt8))) : Int))).bind fun a_152 =>
              bif !a_152 then
                if (0 : Int) ≤ s_159 ∧ s_159 < (↑(List.length s_145) : Int) then
                  (cellarerref05_at (marks_146) ((↑(UInt8.toNat (List.getD s_145 (Int.toNat s_159) (0 : UInt8))) : Int)) (Bool.false)).bind fun a_153 =>
                    bif Decidable.decide (a_153 < (0 : Int)) then
                      some (Sum.inr (Sum.inl ()))
                    else
                      some (Sum.inl (IntKind.wrap IntKind.i64 (s_159 + (1 : Int))))
                else none
              else
                some (Sum.inl (IntKind.wrap IntKind.i64 (s_159 + (1 : Int))))
          else none
        else
          some (Sum.inl (IntKind.wrap IntKind.i64 (s_159 + (1 : Int))))
    else none
  else
    some (Sum.inr (Sum.inr ()))

noncomputable def cellarerref05_only (s_143 : List UInt8) (marks_144 : List UInt8) : Option (Bool) :=
  (iter (cellarerref05_only_b0 (s_143) (marks_144)) ((0 : Int))).bind (Sum.elim (fun t_154 =>
    some (Bool.false)) (fun t_155 =>
    some (Bool.true)))

def cellarerref05_Parse_res (r : Int × List UInt8 × List UInt8 × Int) : AV := (fun (r_169 : Int × List UInt8 × List UInt8 × Int) => AV.tup [AV.agg [AV.int IntKind.i64 (Prod.fst r_169), AV.str (Prod.fst (Prod.snd r_169)), AV.str (Prod.fst (Prod.snd (Prod.snd r_169)))], AV.int IntKind.i64 (Prod.snd (Prod.snd (Prod.snd r_169)))]) r

def cellarerref05_Parse_out (r : Int × List UInt8 × List UInt8 × Int) : List AO := (fun (r_169 : Int × List UInt8 × List UInt8 × Int) => []) r

noncomputable def cellarerref05_Parse_b0 (s_110 : List UInt8) (colon_111 : Int) (s_170 : Int × Int) : Option ((Int × Int) ⊕ (Unit ⊕ Int)) :=
  bif Decidable.decide (Prod.fst s_170 < colon_111) then
    if (0 : Int) ≤ Prod.fst s_170 ∧ Prod.fst s_170 < (↑(List.length s_110) : Int) then
      (cellarerref05_Digit ((↑(UInt8.toNat (List.getD s_110 (Int.toNat (Prod.fst s_170)) (0 : UInt8))) : Int))).bind fun a_127 =>
        bif !a_127 then
          some (Sum.inr (Sum.inl ()))
        else
          if (0 : Int) ≤ Prod.fst s_170 ∧ Prod.fst s_170 < (↑(List.length s_110) : Int) then
            some (Sum.inl (IntKind.wrap IntKind.i64 (Prod.fst s_170 + (1 : Int)), IntKind.wrap IntKind.i64 (IntKind.wrap IntKind.i64 (IntKind.wrap IntKind.i64 ((10 : Int) * Prod.snd s_170) + IntKind.wrap IntKind.i64 (↑(UInt8.toNat (List.getD s_110 (Int.toNat (Prod.fst s_170)) (0 : UInt8))) : Int)) - (48 : Int))))
          else none
    else none
  else
    some (Sum.inr (Sum.inr (Prod.snd s_170)))

noncomputable def cellarerref05_Parse (s_91 : List UInt8) : Option (Int × List UInt8 × List UInt8 × Int) :=
  bif Decidable.decide ((80 : Int) < (↑(List.length s_91) : Int)) then
    some ((0 : Int), [], [], (8 : Int))
  else
    (cellarerref05_at (s_91) ((58 : Int)) (Bool.false)).bind fun a_107 =>
      Option.bind (α := Unit ⊕ List UInt8 × List UInt8 × Int) (
        bif Decidable.decide ((0 : Int) ≤ a_107) then
          if (0 : Int) ≤ IntKind.wrap IntKind.i64 (a_107 + (1 : Int)) ∧ IntKind.wrap IntKind.i64 (a_107 + (1 : Int)) ≤ (↑(List.length s_91) : Int) ∧ (↑(List.length s_91) : Int) ≤ (↑(List.length s_91) : Int) then
            Option.bind (α := Unit ⊕ Unit) (
              bif Decidable.decide (a_107 < (1 : Int)) then
                some (Sum.inl ())
              else
                bif Decidable.decide ((9 : Int) < a_107) then
                  some (Sum.inl ())
                else
                  some (Sum.inr ())) (Sum.elim (fun t_108 =>
              some (Sum.inl ())) (fun t_109 =>
              (iter (cellarerref05_Parse_b0 (s_91) (a_107)) ((0 : Int), (0 : Int))).bind (Sum.elim (fun t_128 =>
                some (Sum.inl ())) (fun t_130 =>
                some (Sum.inr ([(46 : UInt8), (43 : UInt8), (45 : UInt8), (126 : UInt8), (58 : UInt8)], List.drop (Int.toNat (IntKind.wrap IntKind.i64 (a_107 + (1 : Int)))) (List.take (Int.toNat (↑(List.length s_91) : Int)) s_91), t_130))))))
          else none
        else
          some (Sum.inr ([(46 : UInt8), (43 : UInt8), (45 : UInt8), (126 : UInt8)], s_91, (0 : Int)))) (Sum.elim (fun t_133 =>
        some ((0 : Int), [], [], (2 : Int))) (fun t_137 =>
        (cellarerref05_at (Prod.fst (Prod.snd t_137)) ((45 : Int)) (Bool.true)).bind fun a_138 =>
          Option.bind (α := List UInt8 × List UInt8) (
            bif Decidable.decide ((0 : Int) ≤ a_138) then
              if (0 : Int) ≤ (0 : Int) ∧ (0 : Int) ≤ a_138 ∧ a_138 ≤ (↑(List.length (Prod.fst (Prod.snd t_137))) : Int) then
                if (0 : Int) ≤ IntKind.wrap IntKind.i64 (a_138 + (1 : Int)) ∧ IntKind.wrap IntKind.i64 (a_138 + (1 : Int)) ≤ (↑(List.length (Prod.fst (Prod.snd t_137))) : Int) ∧ (↑(List.length (Prod.fst (Prod.snd t_137))) : Int) ≤ (↑(List.length (Prod.fst (Prod.snd t_137))) : Int) then
                  some (List.drop (Int.toNat (0 : Int)) (List.take (Int.toNat a_138) (Prod.fst (Prod.snd t_137))), List.drop (Int.toNat (IntKind.wrap IntKind.i64 (a_138 + (1 : Int)))) (List.take (Int.toNat (↑(List.length (Prod.fst (Prod.snd t_137))) : Int)) (Prod.fst (Prod.snd t_137))))
                else none
              else none
            else
              some (Prod.fst (Prod.snd t_137), [(48 : UInt8)])) (fun t_141 =>
            bif Decidable.decide (Prod.fst t_141 = []) then
              some ((0 : Int), [], [], (2 : Int))
            else
              if (0 : Int) ≤ (0 : Int) ∧ (0 : Int) < (↑(List.length (Prod.fst t_141)) : Int) then
                (cellarerref05_Digit ((↑(UInt8.toNat (List.getD (Prod.fst t_141) (Int.toNat (0 : Int)) (0 : UInt8))) : Int))).bind fun a_142 =>
                  bif !a_142 then
                    some ((0 : Int), [], [], (2 : Int))
                  else
                    (cellarerref05_only (Prod.fst t_141) (Prod.fst t_137)).bind fun a_161 =>
                      bif !a_161 then
                        some ((0 : Int), [], [], (2 : Int))
                      else
                        bif Decidable.decide (Prod.snd t_141 = []) then
                          some ((0 : Int), [], [], (2 : Int))
                        else
                          (cellarerref05_only (Prod.snd t_141) ([(46 : UInt8), (43 : UInt8), (126 : UInt8)])).bind fun a_162 =>
                            bif !a_162 then
                              some ((0 : Int), [], [], (2 : Int))
                            else
                              some (Prod.snd (Prod.snd t_137), Prod.fst t_141, Prod.snd t_141, (0 : Int))
              else none)))

def bits_Text_res (r : List UInt8) : AV := (fun (r_192 : List UInt8) => AV.str r_192) r

def bits_Text_out (r : List UInt8) : List AO := (fun (r_192 : List UInt8) => []) r

noncomputable def bits_Text_b0  (s_193 : Int × Int × List Int) : Option ((Int × Int × List Int) ⊕ (Int × List Int)) :=
  Option.bind (α := Unit ⊕ Unit) (
    bif Decidable.decide (Prod.fst (Prod.snd s_193) = (20 : Int)) then
      some (Sum.inl ())
    else
      bif Decidable.decide ((0 : Int) < Prod.fst s_193) then
        some (Sum.inl ())
      else
        some (Sum.inr ())) (Sum.elim (fun t_183 =>
    if (0 : Int) ≤ IntKind.wrap IntKind.i64 (Prod.fst (Prod.snd s_193) - (1 : Int)) ∧ IntKind.wrap IntKind.i64 (Prod.fst (Prod.snd s_193) - (1 : Int)) < (↑(20 : Nat) : Int) ∧ IntKind.wrap IntKind.i64 (Prod.fst (Prod.snd s_193) - (1 : Int)) < (↑(List.length (Prod.snd (Prod.snd s_193))) : Int) then
      if Int.toNat (IntKind.wrap IntKind.i64 (Prod.fst (Prod.snd s_193) - (1 : Int))) < List.length (Prod.snd (Prod.snd s_193)) then
        some (Sum.inl (IntKind.wrap IntKind.u64 (Int.tdiv (Prod.fst s_193) (10 : Int)), IntKind.wrap IntKind.i64 (Prod.fst (Prod.snd s_193) - (1 : Int)), List.set (Prod.snd (Prod.snd s_193)) (Int.toNat (IntKind.wrap IntKind.i64 (Prod.fst (Prod.snd s_193) - (1 : Int)))) (IntKind.wrap IntKind.u8 ((48 : Int) + IntKind.wrap IntKind.u8 (Int.tmod (Prod.fst s_193) (10 : Int))))))
      else none
    else none) (fun t_184 =>
    some (Sum.inr (Prod.fst (Prod.snd s_193), Prod.snd (Prod.snd s_193)))))

noncomputable def bits_Text (n_176 : Int) : Option (List UInt8) :=
  Option.bind (α := Int) (
    bif Decidable.decide (n_176 < (0 : Int)) then
      some (IntKind.wrap IntKind.u64 ((0 : Int) - IntKind.wrap IntKind.u64 n_176))
    else
      some (IntKind.wrap IntKind.u64 n_176)) (fun t_178 =>
    (iter (bits_Text_b0 ) (t_178, (20 : Int), List.replicate (20 : Nat) (0 : Int))).bind (fun t_188 =>
      bif Decidable.decide (n_176 < (0 : Int)) then
        if List.length (Prod.snd t_188) = (20 : Nat) ∧ (0 : Int) ≤ Prod.fst t_188 ∧ Prod.fst t_188 ≤ (↑(20 : Nat) : Int) ∧ (↑(20 : Nat) : Int) ≤ (↑(20 : Nat) : Int) then
          if List.length [(45 : UInt8)] + List.length (List.map (fun (n : Int) => UInt8.ofNat (Int.toNat n)) (List.drop (Int.toNat (Prod.fst t_188)) (List.take (20 : Nat) (Prod.snd t_188)))) ≤ (140737488355328 : Nat) then
            some ([(45 : UInt8)] ++ List.map (fun (n : Int) => UInt8.ofNat (Int.toNat n)) (List.drop (Int.toNat (Prod.fst t_188)) (List.take (20 : Nat) (Prod.snd t_188))))
          else none
        else none
      else
        if List.length (Prod.snd t_188) = (20 : Nat) ∧ (0 : Int) ≤ Prod.fst t_188 ∧ Prod.fst t_188 ≤ (↑(20 : Nat) : Int) ∧ (↑(20 : Nat) : Int) ≤ (↑(20 : Nat) : Int) then
          some (List.map (fun (n : Int) => UInt8.ofNat (Int.toNat n)) (List.drop (Int.toNat (Prod.fst t_188)) (List.take (20 : Nat) (Prod.snd t_188))))
        else none))

def version_Text_res (r : List UInt8) : AV := (fun (r_203 : List UInt8) => AV.str r_203) r

def version_Text_out (r : List UInt8) : List AO := (fun (r_203 : List UInt8) => []) r

noncomputable def version_Text (v_173 : Int) (v_174 : List UInt8) (v_175 : List UInt8) : Option (List UInt8) :=
  Option.bind (α := List UInt8) (
    bif Decidable.decide ((0 : Int) < v_173) then
      (bits_Text (if (0 : Int) > v_173 then (0 : Int) else v_173)).bind fun a_195 =>
        if List.length a_195 + List.length [(58 : UInt8)] ≤ (140737488355328 : Nat) then
          if List.length (a_195 ++ [(58 : UInt8)]) + List.length v_174 ≤ (140737488355328 : Nat) then
            some (a_195 ++ [(58 : UInt8)] ++ v_174)
          else none
        else none
    else
      (strings_IndexByte (v_174) ((58 : Int))).bind fun a_196 =>
        bif Decidable.decide ((0 : Int) ≤ a_196) then
          (bits_Text (if (0 : Int) > v_173 then (0 : Int) else v_173)).bind fun a_197 =>
            if List.length a_197 + List.length [(58 : UInt8)] ≤ (140737488355328 : Nat) then
              if List.length (a_197 ++ [(58 : UInt8)]) + List.length v_174 ≤ (140737488355328 : Nat) then
                some (a_197 ++ [(58 : UInt8)] ++ v_174)
              else none
            else none
        else
          some (v_174)) (fun t_199 =>
    bif !Decidable.decide (v_175 = [(48 : UInt8)]) then
      if List.length [(45 : UInt8)] + List.length v_175 ≤ (140737488355328 : Nat) then
        if List.length t_199 + List.length ([(45 : UInt8)] ++ v_175) ≤ (140737488355328 : Nat) then
          some (t_199 ++ ([(45 : UInt8)] ++ v_175))
        else none
      else none
    else
      (strings_IndexByte (v_174) ((45 : Int))).bind fun a_200 =>
        bif Decidable.decide ((0 : Int) ≤ a_200) then
          if List.length [(45 : UInt8)] + List.length v_175 ≤ (140737488355328 : Nat) then
            if List.length t_199 + List.length ([(45 : UInt8)] ++ v_175) ≤ (140737488355328 : Nat) then
              some (t_199 ++ ([(45 : UInt8)] ++ v_175))
            else none
          else none
        else
          some (t_199))

def version_parsed_res (r : Int × List UInt8 × List UInt8) : AV := (fun (r_213 : Int × List UInt8 × List UInt8) => AV.agg [AV.int IntKind.i64 (Prod.fst r_213), AV.str (Prod.fst (Prod.snd r_213)), AV.str (Prod.snd (Prod.snd r_213))]) r

def version_parsed_out (r : Int × List UInt8 × List UInt8) : List AO := (fun (r_213 : Int × List UInt8 × List UInt8) => []) r

noncomputable def version_parsed (s_208 : List UInt8) : Option (Int × List UInt8 × List UInt8) :=
  (version_Parse (s_208)).bind fun a_209 =>
    bif !Decidable.decide (Prod.snd (Prod.snd (Prod.snd a_209)) = (0 : Int)) then
      some ((0 : Int), s_208, [(48 : UInt8)])
    else
      some (Prod.fst a_209, Prod.fst (Prod.snd a_209), Prod.fst (Prod.snd (Prod.snd a_209)))

def cmp_isNaN_int__res (r : Bool) : AV := (fun (r_220 : Bool) => AV.bool r_220) r

def cmp_isNaN_int__out (r : Bool) : List AO := (fun (r_220 : Bool) => []) r

noncomputable def cmp_isNaN_int_ (x_218 : Int) : Option (Bool) :=
  some (!Decidable.decide (x_218 = x_218))

def cmp_Compare_int__res (r : Int) : AV := (fun (r_224 : Int) => AV.int IntKind.i64 r_224) r

def cmp_Compare_int__out (r : Int) : List AO := (fun (r_224 : Int) => []) r

noncomputable def cmp_Compare_int_ (x_216 : Int) (y_217 : Int) : Option (Int) :=
  (cmp_isNaN_int_ (x_216)).bind fun a_221 =>
    (cmp_isNaN_int_ (y_217)).bind fun a_222 =>
      bif a_221 then
        bif a_222 then
          some ((0 : Int))
        else
          some ((-1 : Int))
      else
        bif a_222 then
          some ((1 : Int))
        else
          bif Decidable.decide (x_216 < y_217) then
            some ((-1 : Int))
          else
            bif Decidable.decide (y_217 < x_216) then
              some ((1 : Int))
            else
              some ((0 : Int))

def version_weight_res (r : Int) : AV := (fun (r_246 : Int) => AV.int IntKind.i64 r_246) r

def version_weight_out (r : Int) : List AO := (fun (r_246 : Int) => []) r

noncomputable def version_weight (s_241 : List UInt8) (i_242 : Int) : Option (Int) :=
  bif Decidable.decide ((↑(List.length s_241) : Int) ≤ i_242) then
    some ((0 : Int))
  else
    if (0 : Int) ≤ i_242 ∧ i_242 < (↑(List.length s_241) : Int) then
      (version_digit ((↑(UInt8.toNat (List.getD s_241 (Int.toNat i_242) (0 : UInt8))) : Int))).bind fun a_243 =>
        bif a_243 then
          some ((0 : Int))
        else
          if (0 : Int) ≤ i_242 ∧ i_242 < (↑(List.length s_241) : Int) then
            bif Decidable.decide ((↑(UInt8.toNat (List.getD s_241 (Int.toNat i_242) (0 : UInt8))) : Int) = (126 : Int)) then
              some ((-1 : Int))
            else
              if (0 : Int) ≤ i_242 ∧ i_242 < (↑(List.length s_241) : Int) then
                (version_letter ((↑(UInt8.toNat (List.getD s_241 (Int.toNat i_242) (0 : UInt8))) : Int))).bind fun a_244 =>
                  bif a_244 then
                    if (0 : Int) ≤ i_242 ∧ i_242 < (↑(List.length s_241) : Int) then
                      some (IntKind.wrap IntKind.i64 (↑(UInt8.toNat (List.getD s_241 (Int.toNat i_242) (0 : UInt8))) : Int))
                    else none
                  else
                    if (0 : Int) ≤ i_242 ∧ i_242 < (↑(List.length s_241) : Int) then
                      some (IntKind.wrap IntKind.i64 (IntKind.wrap IntKind.i64 (↑(UInt8.toNat (List.getD s_241 (Int.toNat i_242) (0 : UInt8))) : Int) + (256 : Int)))
                    else none
              else none
          else none
    else none

def strings_trimLeftByte_res (r : List UInt8) : AV := (fun (r_283 : List UInt8) => AV.str r_283) r

def strings_trimLeftByte_out (r : List UInt8) : List AO := (fun (r_283 : List UInt8) => []) r

noncomputable def strings_trimLeftByte_b0 (c_275 : Int) (s_284 : List UInt8) : Option ((List UInt8) ⊕ (List UInt8)) :=
  Option.bind (α := Unit ⊕ Unit) (
    bif Decidable.decide ((0 : Int) < (↑(List.length s_284) : Int)) then
      if (0 : Int) ≤ (0 : Int) ∧ (0 : Int) < (↑(List.length s_284) : Int) then
        bif Decidable.decide ((↑(UInt8.toNat (List.getD s_284 (Int.toNat (0 : Int)) (0 : UInt8))) : Int) = c_275) then
          some (Sum.inl ())
        else
          some (Sum.inr ())
      else none
    else
      some (Sum.inr ())) (Sum.elim (fun t_276 =>
    if (0 : Int) ≤ (1 : Int) ∧ (1 : Int) ≤ (↑(List.length s_284) : Int) ∧ (↑(List.length s_284) : Int) ≤ (↑(List.length s_284) : Int) then
      some (Sum.inl (List.drop (Int.toNat (1 : Int)) (List.take (Int.toNat (↑(List.length s_284) : Int)) s_284)))
    else none) (fun t_277 =>
    some (Sum.inr (s_284))))

noncomputable def strings_trimLeftByte (s_272 : List UInt8) (c_273 : Int) : Option (List UInt8) :=
  (iter (strings_trimLeftByte_b0 (c_273)) (s_272)).bind (fun t_280 =>
    some (t_280))

def strings_TrimLeft_res (r : List UInt8) : AV := (fun (r_308 : List UInt8) => AV.str r_308) r

def strings_TrimLeft_out (r : List UInt8) : List AO := (fun (r_308 : List UInt8) => []) r

noncomputable def strings_TrimLeft (s_299 : List UInt8) : Option (List UInt8) :=
  Option.bind (α := Unit ⊕ Unit) (
    bif Decidable.decide (s_299 = []) then
      some (Sum.inl ())
    else
      some (Sum.inr ())) (Sum.elim (fun t_300 =>
    some (s_299)) (fun t_301 =>
    Option.bind (α := List UInt8) (
      (strings_trimLeftByte (s_299) ((↑(UInt8.toNat (List.getD [(48 : UInt8)] (Int.toNat (0 : Int)) (0 : UInt8))) : Int))).bind fun a_302 =>
        some (a_302)) (fun t_304 =>
      some (t_304))))

def version_number_res (r : List UInt8 × Int) : AV := (fun (r_313 : List UInt8 × Int) => AV.tup [AV.str (Prod.fst r_313), AV.int IntKind.i64 (Prod.snd r_313)]) r

def version_number_out (r : List UInt8 × Int) : List AO := (fun (r_313 : List UInt8 × Int) => []) r

noncomputable def version_number_b0 (s_259 : List UInt8) (s_314 : Int) : Option ((Int) ⊕ (Int)) :=
  Option.bind (α := Unit ⊕ Unit) (
    bif Decidable.decide (s_314 < (↑(List.length s_259) : Int)) then
      if (0 : Int) ≤ s_314 ∧ s_314 < (↑(List.length s_259) : Int) then
        (version_digit ((↑(UInt8.toNat (List.getD s_259 (Int.toNat s_314) (0 : UInt8))) : Int))).bind fun a_262 =>
          bif a_262 then
            some (Sum.inl ())
          else
            some (Sum.inr ())
      else none
    else
      some (Sum.inr ())) (Sum.elim (fun t_263 =>
    some (Sum.inl (IntKind.wrap IntKind.i64 (s_314 + (1 : Int))))) (fun t_264 =>
    some (Sum.inr (s_314))))

noncomputable def version_number (s_257 : List UInt8) (i_258 : Int) : Option (List UInt8 × Int) :=
  (iter (version_number_b0 (s_257)) (i_258)).bind (fun t_267 =>
    if (0 : Int) ≤ i_258 ∧ i_258 ≤ t_267 ∧ t_267 ≤ (↑(List.length s_257) : Int) then
      (strings_TrimLeft (List.drop (Int.toNat i_258) (List.take (Int.toNat t_267) s_257))).bind fun a_309 =>
        some (a_309, t_267)
    else none)

def cmp_isNaN_string__res (r : Bool) : AV := (fun (r_323 : Bool) => AV.bool r_323) r

def cmp_isNaN_string__out (r : Bool) : List AO := (fun (r_323 : Bool) => []) r

noncomputable def cmp_isNaN_string_ (x_321 : List UInt8) : Option (Bool) :=
  some (!Decidable.decide (x_321 = x_321))

def cmp_Compare_string__res (r : Int) : AV := (fun (r_327 : Int) => AV.int IntKind.i64 r_327) r

def cmp_Compare_string__out (r : Int) : List AO := (fun (r_327 : Int) => []) r

noncomputable def cmp_Compare_string_ (x_319 : List UInt8) (y_320 : List UInt8) : Option (Int) :=
  (cmp_isNaN_string_ (x_319)).bind fun a_324 =>
    (cmp_isNaN_string_ (y_320)).bind fun a_325 =>
      bif a_324 then
        bif a_325 then
          some ((0 : Int))
        else
          some ((-1 : Int))
      else
        bif a_325 then
          some ((1 : Int))
        else
          bif Go.Op.bytesLess x_319 y_320 then
            some ((-1 : Int))
          else
            bif !(Go.Op.bytesLess x_319 y_320 || Decidable.decide (x_319 = y_320)) then
              some ((1 : Int))
            else
              some ((0 : Int))

def version_Order_res (r : Int) : AV := (fun (r_337 : Int) => AV.int IntKind.i64 r_337) r

def version_Order_out (r : Int) : List AO := (fun (r_337 : Int) => []) r

noncomputable def version_Order_b0 (a_233 : List UInt8) (b_234 : List UInt8) (s_339 : Int × Int) : Option ((Int × Int) ⊕ (Int ⊕ Int × Int)) :=
  Option.bind (α := Unit ⊕ Unit) (
    bif Decidable.decide (Prod.fst s_339 < (↑(List.length a_233) : Int)) then
      if (0 : Int) ≤ Prod.fst s_339 ∧ Prod.fst s_339 < (↑(List.length a_233) : Int) then
        (version_digit ((↑(UInt8.toNat (List.getD a_233 (Int.toNat (Prod.fst s_339)) (0 : UInt8))) : Int))).bind fun a_237 =>
          bif !a_237 then
            some (Sum.inl ())
          else
            bif Decidable.decide (Prod.snd s_339 < (↑(List.length b_234) : Int)) then
              if (0 : Int) ≤ Prod.snd s_339 ∧ Prod.snd s_339 < (↑(List.length b_234) : Int) then
                (version_digit ((↑(UInt8.toNat (List.getD b_234 (Int.toNat (Prod.snd s_339)) (0 : UInt8))) : Int))).bind fun a_238 =>
                  bif !a_238 then
                    some (Sum.inl ())
                  else
                    some (Sum.inr ())
              else none
            else
              some (Sum.inr ())
      else none
    else
      bif Decidable.decide (Prod.snd s_339 < (↑(List.length b_234) : Int)) then
        if (0 : Int) ≤ Prod.snd s_339 ∧ Prod.snd s_339 < (↑(List.length b_234) : Int) then
          (version_digit ((↑(UInt8.toNat (List.getD b_234 (Int.toNat (Prod.snd s_339)) (0 : UInt8))) : Int))).bind fun a_239 =>
            bif !a_239 then
              some (Sum.inl ())
            else
              some (Sum.inr ())
        else none
      else
        some (Sum.inr ())) (Sum.elim (fun t_240 =>
    (version_weight (a_233) (Prod.fst s_339)).bind fun a_247 =>
      (version_weight (b_234) (Prod.snd s_339)).bind fun a_248 =>
        (cmp_Compare_int_ (a_247) (a_248)).bind fun a_249 =>
          bif !Decidable.decide (a_249 = (0 : Int)) then
            some (Sum.inr (Sum.inl (a_249)))
          else
            some (Sum.inl (IntKind.wrap IntKind.i64 (Prod.fst s_339 + (1 : Int)), IntKind.wrap IntKind.i64 (Prod.snd s_339 + (1 : Int))))) (fun t_250 =>
    some (Sum.inr (Sum.inr (Prod.fst s_339, Prod.snd s_339)))))

noncomputable def version_Order_b1 (a_228 : List UInt8) (b_229 : List UInt8) (s_338 : Int × Int) : Option ((Int × Int) ⊕ (Int ⊕ Unit)) :=
  Option.bind (α := Unit ⊕ Unit) (
    bif Decidable.decide (Prod.fst s_338 < (↑(List.length a_228) : Int)) then
      some (Sum.inl ())
    else
      bif Decidable.decide (Prod.snd s_338 < (↑(List.length b_229) : Int)) then
        some (Sum.inl ())
      else
        some (Sum.inr ())) (Sum.elim (fun t_232 =>
    (iter (version_Order_b0 (a_228) (b_229)) (Prod.fst s_338, Prod.snd s_338)).bind (Sum.elim (fun t_253 =>
      some (Sum.inr (Sum.inl (t_253)))) (fun t_256 =>
      (version_number (a_228) (Prod.fst t_256)).bind fun a_316 =>
        (version_number (b_229) (Prod.snd t_256)).bind fun a_317 =>
          bif Decidable.decide (Prod.fst a_316 = Prod.fst a_317) then
            some (Sum.inl (Prod.snd a_316, Prod.snd a_317))
          else
            (cmp_Compare_int_ ((↑(List.length (Prod.fst a_316)) : Int)) ((↑(List.length (Prod.fst a_317)) : Int))).bind fun a_318 =>
              bif !Decidable.decide (a_318 = (0 : Int)) then
                some (Sum.inr (Sum.inl (a_318)))
              else
                (cmp_Compare_string_ (Prod.fst a_316) (Prod.fst a_317)).bind fun a_328 =>
                  some (Sum.inr (Sum.inl (a_328)))))) (fun t_330 =>
    some (Sum.inr (Sum.inr ()))))

noncomputable def version_Order (a_226 : List UInt8) (b_227 : List UInt8) : Option (Int) :=
  (iter (version_Order_b1 (a_226) (b_227)) ((0 : Int), (0 : Int))).bind (Sum.elim (fun t_333 =>
    some (t_333)) (fun t_334 =>
    some ((0 : Int))))

def version_Compare_res (r : Int) : AV := (fun (r_345 : Int) => AV.int IntKind.i64 r_345) r

def version_Compare_out (r : Int) : List AO := (fun (r_345 : Int) => []) r

noncomputable def version_Compare (a_206 : List UInt8) (b_207 : List UInt8) : Option (Int) :=
  (version_parsed (a_206)).bind fun a_214 =>
    (version_parsed (b_207)).bind fun a_215 =>
      (cmp_Compare_int_ (Prod.fst a_214) (Prod.fst a_215)).bind fun a_225 =>
        bif !Decidable.decide (a_225 = (0 : Int)) then
          some (a_225)
        else
          (version_Order (Prod.fst (Prod.snd a_214)) (Prod.fst (Prod.snd a_215))).bind fun a_342 =>
            bif !Decidable.decide (a_342 = (0 : Int)) then
              some (a_342)
            else
              (version_Order (Prod.snd (Prod.snd a_214)) (Prod.snd (Prod.snd a_215))).bind fun a_343 =>
                some (a_343)

def cellarerref01_Text_res (r : List UInt8) : AV := (fun (r_361 : List UInt8) => AV.str r_361) r

def cellarerref01_Text_out (r : List UInt8) : List AO := (fun (r_361 : List UInt8) => []) r

noncomputable def cellarerref01_Text_b0  (s_362 : Int × List UInt8) : Option ((Int × List UInt8) ⊕ (List UInt8)) :=
  bif Decidable.decide ((0 : Int) < Prod.fst s_362) then
    if List.length (enc (IntKind.wrap IntKind.i32 (IntKind.wrap IntKind.u64 ((48 : Int) + Int.tmod (Prod.fst s_362) (10 : Int))))) + List.length (Prod.snd s_362) ≤ (140737488355328 : Nat) then
      some (Sum.inl (IntKind.wrap IntKind.u64 (Int.tdiv (Prod.fst s_362) (10 : Int)), enc (IntKind.wrap IntKind.i32 (IntKind.wrap IntKind.u64 ((48 : Int) + Int.tmod (Prod.fst s_362) (10 : Int)))) ++ Prod.snd s_362))
    else none
  else
    some (Sum.inr (Prod.snd s_362))

noncomputable def cellarerref01_Text (n_350 : Int) : Option (List UInt8) :=
  Option.bind (α := Int) (
    bif Decidable.decide (n_350 < (0 : Int)) then
      some (IntKind.wrap IntKind.u64 ((0 : Int) - IntKind.wrap IntKind.u64 n_350))
    else
      some (IntKind.wrap IntKind.u64 n_350)) (fun t_352 =>
    (iter (cellarerref01_Text_b0 ) (IntKind.wrap IntKind.u64 (Int.tdiv t_352 (10 : Int)), enc (IntKind.wrap IntKind.i32 (IntKind.wrap IntKind.u64 ((48 : Int) + Int.tmod t_352 (10 : Int)))))).bind (fun t_357 =>
      bif Decidable.decide (n_350 < (0 : Int)) then
        if List.length [(45 : UInt8)] + List.length t_357 ≤ (140737488355328 : Nat) then
          some ([(45 : UInt8)] ++ t_357)
        else none
      else
        some (t_357)))

def cellarerref05_Text_res (r : List UInt8) : AV := (fun (r_372 : List UInt8) => AV.str r_372) r

def cellarerref05_Text_out (r : List UInt8) : List AO := (fun (r_372 : List UInt8) => []) r

noncomputable def cellarerref05_Text (v_347 : Int) (v_348 : List UInt8) (v_349 : List UInt8) : Option (List UInt8) :=
  Option.bind (α := List UInt8) (
    bif Decidable.decide ((0 : Int) < v_347) then
      (cellarerref01_Text (if (0 : Int) > v_347 then (0 : Int) else v_347)).bind fun a_364 =>
        if List.length a_364 + List.length [(58 : UInt8)] ≤ (140737488355328 : Nat) then
          if List.length (a_364 ++ [(58 : UInt8)]) + List.length v_348 ≤ (140737488355328 : Nat) then
            some (a_364 ++ [(58 : UInt8)] ++ v_348)
          else none
        else none
    else
      (cellarerref05_at (v_348) ((58 : Int)) (Bool.false)).bind fun a_365 =>
        bif Decidable.decide ((0 : Int) ≤ a_365) then
          (cellarerref01_Text (if (0 : Int) > v_347 then (0 : Int) else v_347)).bind fun a_366 =>
            if List.length a_366 + List.length [(58 : UInt8)] ≤ (140737488355328 : Nat) then
              if List.length (a_366 ++ [(58 : UInt8)]) + List.length v_348 ≤ (140737488355328 : Nat) then
                some (a_366 ++ [(58 : UInt8)] ++ v_348)
              else none
            else none
        else
          some (v_348)) (fun t_368 =>
    bif !Decidable.decide (v_349 = [(48 : UInt8)]) then
      if List.length t_368 + List.length [(45 : UInt8)] ≤ (140737488355328 : Nat) then
        if List.length (t_368 ++ [(45 : UInt8)]) + List.length v_349 ≤ (140737488355328 : Nat) then
          some (t_368 ++ [(45 : UInt8)] ++ v_349)
        else none
      else none
    else
      (cellarerref05_at (v_348) ((45 : Int)) (Bool.false)).bind fun a_369 =>
        bif Decidable.decide ((0 : Int) ≤ a_369) then
          if List.length t_368 + List.length [(45 : UInt8)] ≤ (140737488355328 : Nat) then
            if List.length (t_368 ++ [(45 : UInt8)]) + List.length v_349 ≤ (140737488355328 : Nat) then
              some (t_368 ++ [(45 : UInt8)] ++ v_349)
            else none
          else none
        else
          some (t_368))

def cellarerref05_piece_res (r : List UInt8 × List UInt8 × List UInt8) : AV := (fun (r_415 : List UInt8 × List UInt8 × List UInt8) => AV.tup [AV.str (Prod.fst r_415), AV.str (Prod.fst (Prod.snd r_415)), AV.str (Prod.snd (Prod.snd r_415))]) r

def cellarerref05_piece_out (r : List UInt8 × List UInt8 × List UInt8) : List AO := (fun (r_415 : List UInt8 × List UInt8 × List UInt8) => []) r

noncomputable def cellarerref05_piece_b0 (s_383 : List UInt8) (s_416 : Int) : Option ((Int) ⊕ (Int)) :=
  Option.bind (α := Unit ⊕ Unit) (
    bif Decidable.decide (s_416 < (↑(List.length s_383) : Int)) then
      if (0 : Int) ≤ s_416 ∧ s_416 < (↑(List.length s_383) : Int) then
        (cellarerref05_Digit ((↑(UInt8.toNat (List.getD s_383 (Int.toNat s_416) (0 : UInt8))) : Int))).bind fun a_385 =>
          bif !a_385 then
            some (Sum.inl ())
          else
            some (Sum.inr ())
      else none
    else
      some (Sum.inr ())) (Sum.elim (fun t_386 =>
    some (Sum.inl (IntKind.wrap IntKind.i64 (s_416 + (1 : Int))))) (fun t_387 =>
    some (Sum.inr (s_416))))

noncomputable def cellarerref05_piece_b1 (s_391 : List UInt8) (s_417 : Int) : Option ((Int) ⊕ (Int)) :=
  Option.bind (α := Unit ⊕ Unit) (
    bif Decidable.decide (s_417 < (↑(List.length s_391) : Int)) then
      if (0 : Int) ≤ s_417 ∧ s_417 < (↑(List.length s_391) : Int) then
        (cellarerref05_Digit ((↑(UInt8.toNat (List.getD s_391 (Int.toNat s_417) (0 : UInt8))) : Int))).bind fun a_394 =>
          bif a_394 then
            some (Sum.inl ())
          else
            some (Sum.inr ())
      else none
    else
      some (Sum.inr ())) (Sum.elim (fun t_395 =>
    some (Sum.inl (IntKind.wrap IntKind.i64 (s_417 + (1 : Int))))) (fun t_396 =>
    some (Sum.inr (s_417))))

noncomputable def cellarerref05_piece_b2  (s_418 : List UInt8) : Option ((List UInt8) ⊕ (List UInt8)) :=
  Option.bind (α := Unit ⊕ Unit) (
    bif Decidable.decide ((0 : Int) < (↑(List.length s_418) : Int)) then
      if (0 : Int) ≤ (0 : Int) ∧ (0 : Int) < (↑(List.length s_418) : Int) then
        bif Decidable.decide ((↑(UInt8.toNat (List.getD s_418 (Int.toNat (0 : Int)) (0 : UInt8))) : Int) = (48 : Int)) then
          some (Sum.inl ())
        else
          some (Sum.inr ())
      else none
    else
      some (Sum.inr ())) (Sum.elim (fun t_404 =>
    if (0 : Int) ≤ (1 : Int) ∧ (1 : Int) ≤ (↑(List.length s_418) : Int) ∧ (↑(List.length s_418) : Int) ≤ (↑(List.length s_418) : Int) then
      some (Sum.inl (List.drop (Int.toNat (1 : Int)) (List.take (Int.toNat (↑(List.length s_418) : Int)) s_418)))
    else none) (fun t_405 =>
    some (Sum.inr (s_418))))

noncomputable def cellarerref05_piece (s_382 : List UInt8) : Option (List UInt8 × List UInt8 × List UInt8) :=
  (iter (cellarerref05_piece_b0 (s_382)) ((0 : Int))).bind (fun t_390 =>
    (iter (cellarerref05_piece_b1 (s_382)) (t_390)).bind (fun t_399 =>
      if (0 : Int) ≤ t_390 ∧ t_390 ≤ t_399 ∧ t_399 ≤ (↑(List.length s_382) : Int) then
        (iter (cellarerref05_piece_b2 ) (List.drop (Int.toNat t_390) (List.take (Int.toNat t_399) s_382))).bind (fun t_408 =>
          if (0 : Int) ≤ (0 : Int) ∧ (0 : Int) ≤ t_390 ∧ t_390 ≤ (↑(List.length s_382) : Int) then
            if (0 : Int) ≤ t_399 ∧ t_399 ≤ (↑(List.length s_382) : Int) ∧ (↑(List.length s_382) : Int) ≤ (↑(List.length s_382) : Int) then
              some (List.drop (Int.toNat (0 : Int)) (List.take (Int.toNat t_390) s_382), t_408, List.drop (Int.toNat t_399) (List.take (Int.toNat (↑(List.length s_382) : Int)) s_382))
            else none
          else none)
      else none))

def cellarerref05_weight_res (r : Int) : AV := (fun (r_433 : Int) => AV.int IntKind.i64 r_433) r

def cellarerref05_weight_out (r : Int) : List AO := (fun (r_433 : Int) => []) r

noncomputable def cellarerref05_weight (c_430 : Int) : Option (Int) :=
  bif Decidable.decide (c_430 = (126 : Int)) then
    some ((-1 : Int))
  else
    (cellarerref05_Letter (c_430)).bind fun a_431 =>
      bif a_431 then
        some (IntKind.wrap IntKind.i64 c_430)
      else
        some (IntKind.wrap IntKind.i64 ((256 : Int) + IntKind.wrap IntKind.i64 c_430))

def cellarerref05_words_res (r : Int) : AV := (fun (r_449 : Int) => AV.int IntKind.i64 r_449) r

def cellarerref05_words_out (r : Int) : List AO := (fun (r_449 : Int) => []) r

noncomputable def cellarerref05_words_b0 (a_426 : List UInt8) (b_427 : List UInt8) (s_450 : Int) : Option ((Int) ⊕ (Int ⊕ Unit)) :=
  Option.bind (α := Unit ⊕ Unit) (
    bif Decidable.decide (s_450 < (↑(List.length a_426) : Int)) then
      some (Sum.inl ())
    else
      bif Decidable.decide (s_450 < (↑(List.length b_427) : Int)) then
        some (Sum.inl ())
      else
        some (Sum.inr ())) (Sum.elim (fun t_429 =>
    Option.bind (α := Int) (
      bif Decidable.decide (s_450 < (↑(List.length a_426) : Int)) then
        if (0 : Int) ≤ s_450 ∧ s_450 < (↑(List.length a_426) : Int) then
          (cellarerref05_weight ((↑(UInt8.toNat (List.getD a_426 (Int.toNat s_450) (0 : UInt8))) : Int))).bind fun a_434 =>
            some (a_434)
        else none
      else
        some ((0 : Int))) (fun t_436 =>
      Option.bind (α := Int) (
        bif Decidable.decide (s_450 < (↑(List.length b_427) : Int)) then
          if (0 : Int) ≤ s_450 ∧ s_450 < (↑(List.length b_427) : Int) then
            (cellarerref05_weight ((↑(UInt8.toNat (List.getD b_427 (Int.toNat s_450) (0 : UInt8))) : Int))).bind fun a_437 =>
              some (a_437)
          else none
        else
          some ((0 : Int))) (fun t_439 =>
        bif Decidable.decide (t_436 < t_439) then
          some (Sum.inr (Sum.inl ((-1 : Int))))
        else
          bif Decidable.decide (t_439 < t_436) then
            some (Sum.inr (Sum.inl ((1 : Int))))
          else
            some (Sum.inl (IntKind.wrap IntKind.i64 (s_450 + (1 : Int))))))) (fun t_442 =>
    some (Sum.inr (Sum.inr ()))))

noncomputable def cellarerref05_words (a_424 : List UInt8) (b_425 : List UInt8) : Option (Int) :=
  (iter (cellarerref05_words_b0 (a_424) (b_425)) ((0 : Int))).bind (Sum.elim (fun t_445 =>
    some (t_445)) (fun t_446 =>
    some ((0 : Int))))

def cellarerref05_numbers_res (r : Int) : AV := (fun (r_456 : Int) => AV.int IntKind.i64 r_456) r

def cellarerref05_numbers_out (r : Int) : List AO := (fun (r_456 : Int) => []) r

noncomputable def cellarerref05_numbers (a_453 : List UInt8) (b_454 : List UInt8) : Option (Int) :=
  bif Decidable.decide ((↑(List.length a_453) : Int) < (↑(List.length b_454) : Int)) then
    some ((-1 : Int))
  else
    bif Decidable.decide ((↑(List.length a_453) : Int) = (↑(List.length b_454) : Int)) then
      bif Go.Op.bytesLess a_453 b_454 then
        some ((-1 : Int))
      else
        bif Decidable.decide (a_453 = b_454) then
          some ((0 : Int))
        else
          some ((1 : Int))
    else
      bif Decidable.decide (a_453 = b_454) then
        some ((0 : Int))
      else
        some ((1 : Int))

def cellarerref05_Order_res (r : Int) : AV := (fun (r_465 : Int) => AV.int IntKind.i64 r_465) r

def cellarerref05_Order_out (r : Int) : List AO := (fun (r_465 : Int) => []) r

noncomputable def cellarerref05_Order_b0  (s_466 : List UInt8 × List UInt8) : Option ((List UInt8 × List UInt8) ⊕ (Int ⊕ Unit)) :=
  Option.bind (α := Unit ⊕ Unit) (
    bif !Decidable.decide (Prod.fst s_466 = []) then
      some (Sum.inl ())
    else
      bif !Decidable.decide (Prod.snd s_466 = []) then
        some (Sum.inl ())
      else
        some (Sum.inr ())) (Sum.elim (fun t_381 =>
    (cellarerref05_piece (Prod.fst s_466)).bind fun a_422 =>
      (cellarerref05_piece (Prod.snd s_466)).bind fun a_423 =>
        (cellarerref05_words (Prod.fst a_422) (Prod.fst a_423)).bind fun a_452 =>
          bif !Decidable.decide (a_452 = (0 : Int)) then
            some (Sum.inr (Sum.inl (a_452)))
          else
            (cellarerref05_numbers (Prod.fst (Prod.snd a_422)) (Prod.fst (Prod.snd a_423))).bind fun a_457 =>
              bif !Decidable.decide (a_457 = (0 : Int)) then
                some (Sum.inr (Sum.inl (a_457)))
              else
                some (Sum.inl (Prod.snd (Prod.snd a_422), Prod.snd (Prod.snd a_423)))) (fun t_458 =>
    some (Sum.inr (Sum.inr ()))))

noncomputable def cellarerref05_Order (a_377 : List UInt8) (b_378 : List UInt8) : Option (Int) :=
  (iter (cellarerref05_Order_b0 ) (a_377, b_378)).bind (Sum.elim (fun t_461 =>
    some (t_461)) (fun t_462 =>
    some ((0 : Int))))

def version_Best_res (r : Int) : AV := (fun (r_480 : Int) => AV.int IntKind.i64 r_480) r

def version_Best_out (r : Int) : List AO := (fun (r_480 : Int) => []) r

noncomputable def version_Best_b0 (l_470 : List (List UInt8)) (t_472 : List (List UInt8)) (t_473 : Int) (s_481 : Int × Int) : Option ((Int × Int) ⊕ (Int)) :=
  bif Decidable.decide (Prod.snd s_481 < t_473) then
    if (0 : Int) ≤ Prod.snd s_481 ∧ Prod.snd s_481 < (↑(List.length t_472) : Int) then
      bif Decidable.decide (Prod.fst s_481 < (0 : Int)) then
        some (Sum.inl (Prod.snd s_481, IntKind.wrap IntKind.i64 (Prod.snd s_481 + (1 : Int))))
      else
        if (0 : Int) ≤ Prod.fst s_481 ∧ Prod.fst s_481 < (↑(List.length l_470) : Int) then
          (version_Compare (List.getD t_472 (Int.toNat (Prod.snd s_481)) []) (List.getD l_470 (Int.toNat (Prod.fst s_481)) [])).bind fun a_475 =>
            bif Decidable.decide ((0 : Int) < a_475) then
              some (Sum.inl (Prod.snd s_481, IntKind.wrap IntKind.i64 (Prod.snd s_481 + (1 : Int))))
            else
              some (Sum.inl (Prod.fst s_481, IntKind.wrap IntKind.i64 (Prod.snd s_481 + (1 : Int))))
        else none
    else none
  else
    some (Sum.inr (Prod.fst s_481))

noncomputable def version_Best (l_469 : List (List UInt8)) : Option (Int) :=
  (iter (version_Best_b0 (l_469) (l_469) ((↑(List.length l_469) : Int))) ((-1 : Int), (0 : Int))).bind (fun t_477 =>
    some (t_477))

def cellarerref05_Compare_res (r : Int) : AV := (fun (r_502 : Int) => AV.int IntKind.i64 r_502) r

def cellarerref05_Compare_out (r : Int) : List AO := (fun (r_502 : Int) => []) r

noncomputable def cellarerref05_Compare (a_485 : List UInt8) (b_486 : List UInt8) : Option (Int) :=
  (cellarerref05_Parse (a_485)).bind fun a_487 =>
    Option.bind (α := Int × List UInt8 × List UInt8) (
      bif !Decidable.decide (Prod.snd (Prod.snd (Prod.snd a_487)) = (0 : Int)) then
        some ((0 : Int), a_485, [(48 : UInt8)])
      else
        some (Prod.fst a_487, Prod.fst (Prod.snd a_487), Prod.fst (Prod.snd (Prod.snd a_487)))) (fun t_491 =>
      (cellarerref05_Parse (b_486)).bind fun a_492 =>
        Option.bind (α := Int × List UInt8 × List UInt8) (
          bif !Decidable.decide (Prod.snd (Prod.snd (Prod.snd a_492)) = (0 : Int)) then
            some ((0 : Int), b_486, [(48 : UInt8)])
          else
            some (Prod.fst a_492, Prod.fst (Prod.snd a_492), Prod.fst (Prod.snd (Prod.snd a_492)))) (fun t_496 =>
          bif Decidable.decide (Prod.fst t_491 < Prod.fst t_496) then
            some ((-1 : Int))
          else
            bif Decidable.decide (Prod.fst t_496 < Prod.fst t_491) then
              some ((1 : Int))
            else
              (cellarerref05_Order (Prod.fst (Prod.snd t_491)) (Prod.fst (Prod.snd t_496))).bind fun a_497 =>
                bif !Decidable.decide (a_497 = (0 : Int)) then
                  some (a_497)
                else
                  (cellarerref05_Order (Prod.snd (Prod.snd t_491)) (Prod.snd (Prod.snd t_496))).bind fun a_498 =>
                    some (a_498)))

def version_Holds_res (r : Bool) : AV := (fun (r_511 : Bool) => AV.bool r_511) r

def version_Holds_out (r : Bool) : List AO := (fun (r_511 : Bool) => []) r

noncomputable def version_Holds (v_506 : List UInt8) (op_507 : List UInt8) (other_508 : List UInt8) : Option (Bool) :=
  (version_Compare (v_506) (other_508)).bind fun a_509 =>
    bif Decidable.decide (op_507 = [(60 : UInt8), (60 : UInt8)]) then
      some (Decidable.decide (a_509 < (0 : Int)))
    else
      bif Decidable.decide (op_507 = [(60 : UInt8), (61 : UInt8)]) then
        some (Decidable.decide (a_509 ≤ (0 : Int)))
      else
        bif Decidable.decide (op_507 = [(61 : UInt8)]) then
          some (Decidable.decide (a_509 = (0 : Int)))
        else
          bif Decidable.decide (op_507 = [(62 : UInt8), (61 : UInt8)]) then
            some (Decidable.decide ((0 : Int) ≤ a_509))
          else
            bif Decidable.decide (op_507 = [(62 : UInt8), (62 : UInt8)]) then
              some (Decidable.decide ((0 : Int) < a_509))
            else
              some (Decidable.decide (op_507 = []))

def cellarerref05_Holds_res (r : Bool) : AV := (fun (r_520 : Bool) => AV.bool r_520) r

def cellarerref05_Holds_out (r : Bool) : List AO := (fun (r_520 : Bool) => []) r

noncomputable def cellarerref05_Holds (v_515 : List UInt8) (op_516 : List UInt8) (other_517 : List UInt8) : Option (Bool) :=
  (cellarerref05_Compare (v_515) (other_517)).bind fun a_518 =>
    bif Decidable.decide (op_516 = []) then
      some (Bool.true)
    else
      bif Decidable.decide (op_516 = [(60 : UInt8), (60 : UInt8)]) then
        bif Decidable.decide (a_518 < (0 : Int)) then
          some (Bool.true)
        else
          bif Decidable.decide (op_516 = [(60 : UInt8), (61 : UInt8)]) then
            bif Decidable.decide (a_518 ≤ (0 : Int)) then
              some (Bool.true)
            else
              bif Decidable.decide (op_516 = [(61 : UInt8)]) then
                bif Decidable.decide (a_518 = (0 : Int)) then
                  some (Bool.true)
                else
                  bif Decidable.decide (op_516 = [(62 : UInt8), (61 : UInt8)]) then
                    bif Decidable.decide ((0 : Int) ≤ a_518) then
                      some (Bool.true)
                    else
                      bif Decidable.decide (op_516 = [(62 : UInt8), (62 : UInt8)]) then
                        some (Decidable.decide ((0 : Int) < a_518))
                      else
                        some (Bool.false)
                  else
                    bif Decidable.decide (op_516 = [(62 : UInt8), (62 : UInt8)]) then
                      some (Decidable.decide ((0 : Int) < a_518))
                    else
                      some (Bool.false)
              else
                bif Decidable.decide (op_516 = [(62 : UInt8), (61 : UInt8)]) then
                  bif Decidable.decide ((0 : Int) ≤ a_518) then
                    some (Bool.true)
                  else
                    bif Decidable.decide (op_516 = [(62 : UInt8), (62 : UInt8)]) then
                      some (Decidable.decide ((0 : Int) < a_518))
                    else
                      some (Bool.false)
                else
                  bif Decidable.decide (op_516 = [(62 : UInt8), (62 : UInt8)]) then
                    some (Decidable.decide ((0 : Int) < a_518))
                  else
                    some (Bool.false)
          else
            bif Decidable.decide (op_516 = [(61 : UInt8)]) then
              bif Decidable.decide (a_518 = (0 : Int)) then
                some (Bool.true)
              else
                bif Decidable.decide (op_516 = [(62 : UInt8), (61 : UInt8)]) then
                  bif Decidable.decide ((0 : Int) ≤ a_518) then
                    some (Bool.true)
                  else
                    bif Decidable.decide (op_516 = [(62 : UInt8), (62 : UInt8)]) then
                      some (Decidable.decide ((0 : Int) < a_518))
                    else
                      some (Bool.false)
                else
                  bif Decidable.decide (op_516 = [(62 : UInt8), (62 : UInt8)]) then
                    some (Decidable.decide ((0 : Int) < a_518))
                  else
                    some (Bool.false)
            else
              bif Decidable.decide (op_516 = [(62 : UInt8), (61 : UInt8)]) then
                bif Decidable.decide ((0 : Int) ≤ a_518) then
                  some (Bool.true)
                else
                  bif Decidable.decide (op_516 = [(62 : UInt8), (62 : UInt8)]) then
                    some (Decidable.decide ((0 : Int) < a_518))
                  else
                    some (Bool.false)
              else
                bif Decidable.decide (op_516 = [(62 : UInt8), (62 : UInt8)]) then
                  some (Decidable.decide ((0 : Int) < a_518))
                else
                  some (Bool.false)
      else
        bif Decidable.decide (op_516 = [(60 : UInt8), (61 : UInt8)]) then
          bif Decidable.decide (a_518 ≤ (0 : Int)) then
            some (Bool.true)
          else
            bif Decidable.decide (op_516 = [(61 : UInt8)]) then
              bif Decidable.decide (a_518 = (0 : Int)) then
                some (Bool.true)
              else
                bif Decidable.decide (op_516 = [(62 : UInt8), (61 : UInt8)]) then
                  bif Decidable.decide ((0 : Int) ≤ a_518) then
                    some (Bool.true)
                  else
                    bif Decidable.decide (op_516 = [(62 : UInt8), (62 : UInt8)]) then
                      some (Decidable.decide ((0 : Int) < a_518))
                    else
                      some (Bool.false)
                else
                  bif Decidable.decide (op_516 = [(62 : UInt8), (62 : UInt8)]) then
                    some (Decidable.decide ((0 : Int) < a_518))
                  else
                    some (Bool.false)
            else
              bif Decidable.decide (op_516 = [(62 : UInt8), (61 : UInt8)]) then
                bif Decidable.decide ((0 : Int) ≤ a_518) then
                  some (Bool.true)
                else
                  bif Decidable.decide (op_516 = [(62 : UInt8), (62 : UInt8)]) then
                    some (Decidable.decide ((0 : Int) < a_518))
                  else
                    some (Bool.false)
              else
                bif Decidable.decide (op_516 = [(62 : UInt8), (62 : UInt8)]) then
                  some (Decidable.decide ((0 : Int) < a_518))
                else
                  some (Bool.false)
        else
          bif Decidable.decide (op_516 = [(61 : UInt8)]) then
            bif Decidable.decide (a_518 = (0 : Int)) then
              some (Bool.true)
            else
              bif Decidable.decide (op_516 = [(62 : UInt8), (61 : UInt8)]) then
                bif Decidable.decide ((0 : Int) ≤ a_518) then
                  some (Bool.true)
                else
                  bif Decidable.decide (op_516 = [(62 : UInt8), (62 : UInt8)]) then
                    some (Decidable.decide ((0 : Int) < a_518))
                  else
                    some (Bool.false)
              else
                bif Decidable.decide (op_516 = [(62 : UInt8), (62 : UInt8)]) then
                  some (Decidable.decide ((0 : Int) < a_518))
                else
                  some (Bool.false)
          else
            bif Decidable.decide (op_516 = [(62 : UInt8), (61 : UInt8)]) then
              bif Decidable.decide ((0 : Int) ≤ a_518) then
                some (Bool.true)
              else
                bif Decidable.decide (op_516 = [(62 : UInt8), (62 : UInt8)]) then
                  some (Decidable.decide ((0 : Int) < a_518))
                else
                  some (Bool.false)
            else
              bif Decidable.decide (op_516 = [(62 : UInt8), (62 : UInt8)]) then
                some (Decidable.decide ((0 : Int) < a_518))
              else
                some (Bool.false)

def cellarerlaw05_awake_res (r : Bool) : AV := (fun (r_532 : Bool) => AV.bool r_532) r

def cellarerlaw05_awake_out (r : Bool) : List AO := (fun (r_532 : Bool) => []) r

noncomputable def cellarerlaw05_awake  : Option (Bool) :=
  (version_Parse ([(50 : UInt8), (58 : UInt8), (49 : UInt8), (45 : UInt8), (51 : UInt8)])).bind fun a_525 =>
    bif Decidable.decide (Prod.snd (Prod.snd (Prod.snd a_525)) = (0 : Int)) then
      bif Decidable.decide (Prod.fst a_525 = (2 : Int)) then
        (version_Text (Prod.fst a_525) (Prod.fst (Prod.snd a_525)) (Prod.fst (Prod.snd (Prod.snd a_525)))).bind fun a_526 =>
          bif Decidable.decide (a_526 = [(50 : UInt8), (58 : UInt8), (49 : UInt8), (45 : UInt8), (51 : UInt8)]) then
            (version_Compare ([(49 : UInt8), (46 : UInt8), (48 : UInt8), (126 : UInt8), (114 : UInt8), (99 : UInt8), (49 : UInt8)]) ([(49 : UInt8), (46 : UInt8), (48 : UInt8)])).bind fun a_527 =>
              bif Decidable.decide (a_527 = (-1 : Int)) then
                (version_Compare ([(49 : UInt8), (46 : UInt8), (48 : UInt8)]) ([(49 : UInt8), (46 : UInt8), (48 : UInt8), (45 : UInt8), (49 : UInt8)])).bind fun a_528 =>
                  bif Decidable.decide (a_528 = (-1 : Int)) then
                    (version_Compare ([(50 : UInt8), (58 : UInt8), (49 : UInt8)]) ([(49 : UInt8), (48 : UInt8)])).bind fun a_529 =>
                      bif Decidable.decide (a_529 = (1 : Int)) then
                        (version_Compare ([(49 : UInt8), (46 : UInt8), (57 : UInt8)]) ([(49 : UInt8), (46 : UInt8), (49 : UInt8), (48 : UInt8)])).bind fun a_530 =>
                          some (Decidable.decide (a_530 = (-1 : Int)))
                      else
                        some (Bool.false)
                  else
                    some (Bool.false)
              else
                some (Bool.false)
          else
            some (Bool.false)
      else
        some (Bool.false)
    else
      some (Bool.false)

def cellarerlaw05_VersionParses_res (r : Bool) : AV := (fun (r_549 : Bool) => AV.bool r_549) r

def cellarerlaw05_VersionParses_out (r : Bool) : List AO := (fun (r_549 : Bool) => []) r

noncomputable def cellarerlaw05_VersionParses (s_524 : List UInt8) : Option (Bool) :=
  bif Decidable.decide ((1000 : Int) < (↑(List.length s_524) : Int)) then
    (cellarerlaw05_awake ).bind fun a_533 =>
      some (a_533)
  else
    (version_Parse (s_524)).bind fun a_534 =>
      (cellarerref05_Parse (s_524)).bind fun a_535 =>
        Option.bind (α := Unit ⊕ Unit) (
          bif !(Decidable.decide (Prod.fst a_534 = Prod.fst a_535) && (Decidable.decide (Prod.fst (Prod.snd a_534) = Prod.fst (Prod.snd a_535)) && Decidable.decide (Prod.fst (Prod.snd (Prod.snd a_534)) = Prod.fst (Prod.snd (Prod.snd a_535))))) then
            some (Sum.inl ())
          else
            bif !Decidable.decide (Prod.snd (Prod.snd (Prod.snd a_534)) = Prod.snd (Prod.snd (Prod.snd a_535))) then
              some (Sum.inl ())
            else
              some (Sum.inr ())) (Sum.elim (fun t_536 =>
          some (Bool.false)) (fun t_537 =>
          bif !Decidable.decide (Prod.snd (Prod.snd (Prod.snd a_534)) = (0 : Int)) then
            (cellarerlaw05_awake ).bind fun a_538 =>
              some (a_538)
          else
            (version_Text (Prod.fst a_534) (Prod.fst (Prod.snd a_534)) (Prod.fst (Prod.snd (Prod.snd a_534)))).bind fun a_539 =>
              (version_Parse (a_539)).bind fun a_540 =>
                bif Decidable.decide ((80 : Int) < (↑(List.length a_539) : Int)) then
                  bif Decidable.decide ((80 : Int) < (↑(List.length a_539) : Int)) then
                    (cellarerlaw05_awake ).bind fun a_541 =>
                      some (a_541)
                  else
                    (version_Compare (s_524) (a_539)).bind fun a_542 =>
                      bif Decidable.decide (a_542 = (0 : Int)) then
                        (cellarerlaw05_awake ).bind fun a_543 =>
                          some (a_543)
                      else
                        some (Bool.false)
                else
                  bif Decidable.decide (Prod.snd (Prod.snd (Prod.snd a_540)) = (0 : Int)) then
                    bif Decidable.decide (Prod.fst a_540 = Prod.fst a_534) && (Decidable.decide (Prod.fst (Prod.snd a_540) = Prod.fst (Prod.snd a_534)) && Decidable.decide (Prod.fst (Prod.snd (Prod.snd a_540)) = Prod.fst (Prod.snd (Prod.snd a_534)))) then
                      bif Decidable.decide ((80 : Int) < (↑(List.length a_539) : Int)) then
                        (cellarerlaw05_awake ).bind fun a_544 =>
                          some (a_544)
                      else
                        (version_Compare (s_524) (a_539)).bind fun a_545 =>
                          bif Decidable.decide (a_545 = (0 : Int)) then
                            (cellarerlaw05_awake ).bind fun a_546 =>
                              some (a_546)
                          else
                            some (Bool.false)
                    else
                      some (Bool.false)
                  else
                    some (Bool.false)))

def cellarerlaw05_VersionTexts_res (r : Bool) : AV := (fun (r_564 : Bool) => AV.bool r_564) r

def cellarerlaw05_VersionTexts_out (r : Bool) : List AO := (fun (r_564 : Bool) => []) r

noncomputable def cellarerlaw05_VersionTexts (v_551 : Int) (v_552 : List UInt8) (v_553 : List UInt8) : Option (Bool) :=
  Option.bind (α := Bool ⊕ Unit) (
    bif Decidable.decide ((500 : Int) < (↑(List.length v_552) : Int)) then
      (cellarerlaw05_awake ).bind fun a_554 =>
        some (Sum.inl (a_554))
    else
      bif Decidable.decide ((500 : Int) < (↑(List.length v_553) : Int)) then
        (cellarerlaw05_awake ).bind fun a_555 =>
          some (Sum.inl (a_555))
      else
        some (Sum.inr ())) (Sum.elim (fun t_557 =>
    some (t_557)) (fun t_558 =>
    (version_Text (v_551) (v_552) (v_553)).bind fun a_559 =>
      (cellarerref05_Text (v_551) (v_552) (v_553)).bind fun a_560 =>
        bif Decidable.decide (a_559 = a_560) then
          (cellarerlaw05_awake ).bind fun a_561 =>
            some (a_561)
        else
          some (Bool.false)))

def cellarerlaw05_VersionOrders_res (r : Bool) : AV := (fun (r_581 : Bool) => AV.bool r_581) r

def cellarerlaw05_VersionOrders_out (r : Bool) : List AO := (fun (r_581 : Bool) => []) r

noncomputable def cellarerlaw05_VersionOrders (a_567 : List UInt8) (b_568 : List UInt8) : Option (Bool) :=
  Option.bind (α := Bool ⊕ Unit) (
    bif Decidable.decide ((500 : Int) < (↑(List.length a_567) : Int)) then
      (cellarerlaw05_awake ).bind fun a_569 =>
        some (Sum.inl (a_569))
    else
      bif Decidable.decide ((500 : Int) < (↑(List.length b_568) : Int)) then
        (cellarerlaw05_awake ).bind fun a_570 =>
          some (Sum.inl (a_570))
      else
        some (Sum.inr ())) (Sum.elim (fun t_572 =>
    some (t_572)) (fun t_573 =>
    (version_Order (a_567) (b_568)).bind fun a_574 =>
      (cellarerref05_Order (a_567) (b_568)).bind fun a_575 =>
        bif Decidable.decide (a_574 = a_575) then
          (version_Order (b_568) (a_567)).bind fun a_576 =>
            bif Decidable.decide (a_576 = IntKind.wrap IntKind.i64 ((0 : Int) - a_574)) then
              (version_Order (a_567) (a_567)).bind fun a_577 =>
                bif Decidable.decide (a_577 = (0 : Int)) then
                  (cellarerlaw05_awake ).bind fun a_578 =>
                    some (a_578)
                else
                  some (Bool.false)
            else
              some (Bool.false)
        else
          some (Bool.false)))

def cellarerlaw05_VersionChains_res (r : Bool) : AV := (fun (r_641 : Bool) => AV.bool r_641) r

def cellarerlaw05_VersionChains_out (r : Bool) : List AO := (fun (r_641 : Bool) => []) r

noncomputable def cellarerlaw05_VersionChains (a_585 : List UInt8) (b_586 : List UInt8) (c_587 : List UInt8) : Option (Bool) :=
  Option.bind (α := Bool ⊕ Unit) (
    bif Decidable.decide ((300 : Int) < (↑(List.length a_585) : Int)) then
      (cellarerlaw05_awake ).bind fun a_588 =>
        some (Sum.inl (a_588))
    else
      bif Decidable.decide ((300 : Int) < (↑(List.length b_586) : Int)) then
        (cellarerlaw05_awake ).bind fun a_589 =>
          some (Sum.inl (a_589))
      else
        bif Decidable.decide ((300 : Int) < (↑(List.length c_587) : Int)) then
          (cellarerlaw05_awake ).bind fun a_590 =>
            some (Sum.inl (a_590))
        else
          some (Sum.inr ())) (Sum.elim (fun t_592 =>
    some (t_592)) (fun t_593 =>
    (version_Compare (a_585) (b_586)).bind fun a_594 =>
      (version_Compare (b_586) (c_587)).bind fun a_595 =>
        (version_Compare (a_585) (c_587)).bind fun a_596 =>
          bif Decidable.decide (a_594 ≤ (0 : Int)) then
            bif Decidable.decide (a_595 ≤ (0 : Int)) then
              bif Decidable.decide ((0 : Int) < a_596) then
                some (Bool.false)
              else
                bif Decidable.decide (a_594 = (0 : Int)) then
                  bif !Decidable.decide (a_595 = a_596) then
                    some (Bool.false)
                  else
                    bif Decidable.decide (a_594 < (0 : Int)) then
                      bif Decidable.decide (a_595 ≤ (0 : Int)) then
                        bif Decidable.decide ((0 : Int) ≤ a_596) then
                          some (Bool.false)
                        else
                          (cellarerlaw05_awake ).bind fun a_597 =>
                            some (a_597)
                      else
                        bif Decidable.decide (a_594 ≤ (0 : Int)) then
                          bif Decidable.decide (a_595 < (0 : Int)) then
                            bif Decidable.decide ((0 : Int) ≤ a_596) then
                              some (Bool.false)
                            else
                              (cellarerlaw05_awake ).bind fun a_598 =>
                                some (a_598)
                          else
                            (cellarerlaw05_awake ).bind fun a_599 =>
                              some (a_599)
                        else
                          (cellarerlaw05_awake ).bind fun a_600 =>
                            some (a_600)
                    else
                      bif Decidable.decide (a_594 ≤ (0 : Int)) then
                        bif Decidable.decide (a_595 < (0 : Int)) then
                          bif Decidable.decide ((0 : Int) ≤ a_596) then
                            some (Bool.false)
                          else
                            (cellarerlaw05_awake ).bind fun a_601 =>
                              some (a_601)
                        else
                          (cellarerlaw05_awake ).bind fun a_602 =>
                            some (a_602)
                      else
                        (cellarerlaw05_awake ).bind fun a_603 =>
                          some (a_603)
                else
                  bif Decidable.decide (a_594 < (0 : Int)) then
                    bif Decidable.decide (a_595 ≤ (0 : Int)) then
                      bif Decidable.decide ((0 : Int) ≤ a_596) then
                        some (Bool.false)
                      else
                        (cellarerlaw05_awake ).bind fun a_604 =>
                          some (a_604)
                    else
                      bif Decidable.decide (a_594 ≤ (0 : Int)) then
                        bif Decidable.decide (a_595 < (0 : Int)) then
                          bif Decidable.decide ((0 : Int) ≤ a_596) then
                            some (Bool.false)
                          else
                            (cellarerlaw05_awake ).bind fun a_605 =>
                              some (a_605)
                        else
                          (cellarerlaw05_awake ).bind fun a_606 =>
                            some (a_606)
                      else
                        (cellarerlaw05_awake ).bind fun a_607 =>
                          some (a_607)
                  else
                    bif Decidable.decide (a_594 ≤ (0 : Int)) then
                      bif Decidable.decide (a_595 < (0 : Int)) then
                        bif Decidable.decide ((0 : Int) ≤ a_596) then
                          some (Bool.false)
                        else
                          (cellarerlaw05_awake ).bind fun a_608 =>
                            some (a_608)
                      else
                        (cellarerlaw05_awake ).bind fun a_609 =>
                          some (a_609)
                    else
                      (cellarerlaw05_awake ).bind fun a_610 =>
                        some (a_610)
            else
              bif Decidable.decide (a_594 = (0 : Int)) then
                bif !Decidable.decide (a_595 = a_596) then
                  some (Bool.false)
                else
                  bif Decidable.decide (a_594 < (0 : Int)) then
                    bif Decidable.decide (a_595 ≤ (0 : Int)) then
                      bif Decidable.decide ((0 : Int) ≤ a_596) then
                        some (Bool.false)
                      else
                        (cellarerlaw05_awake ).bind fun a_611 =>
                          some (a_611)
                    else
                      bif Decidable.decide (a_594 ≤ (0 : Int)) then
                        bif Decidable.decide (a_595 < (0 : Int)) then
                          bif Decidable.decide ((0 : Int) ≤ a_596) then
                            some (Bool.false)
                          else
                            (cellarerlaw05_awake ).bind fun a_612 =>
                              some (a_612)
                        else
                          (cellarerlaw05_awake ).bind fun a_613 =>
                            some (a_613)
                      else
                        (cellarerlaw05_awake ).bind fun a_614 =>
                          some (a_614)
                  else
                    bif Decidable.decide (a_594 ≤ (0 : Int)) then
                      bif Decidable.decide (a_595 < (0 : Int)) then
                        bif Decidable.decide ((0 : Int) ≤ a_596) then
                          some (Bool.false)
                        else
                          (cellarerlaw05_awake ).bind fun a_615 =>
                            some (a_615)
                      else
                        (cellarerlaw05_awake ).bind fun a_616 =>
                          some (a_616)
                    else
                      (cellarerlaw05_awake ).bind fun a_617 =>
                        some (a_617)
              else
                bif Decidable.decide (a_594 < (0 : Int)) then
                  bif Decidable.decide (a_595 ≤ (0 : Int)) then
                    bif Decidable.decide ((0 : Int) ≤ a_596) then
                      some (Bool.false)
                    else
                      (cellarerlaw05_awake ).bind fun a_618 =>
                        some (a_618)
                  else
                    bif Decidable.decide (a_594 ≤ (0 : Int)) then
                      bif Decidable.decide (a_595 < (0 : Int)) then
                        bif Decidable.decide ((0 : Int) ≤ a_596) then
                          some (Bool.false)
                        else
                          (cellarerlaw05_awake ).bind fun a_619 =>
                            some (a_619)
                      else
                        (cellarerlaw05_awake ).bind fun a_620 =>
                          some (a_620)
                    else
                      (cellarerlaw05_awake ).bind fun a_621 =>
                        some (a_621)
                else
                  bif Decidable.decide (a_594 ≤ (0 : Int)) then
                    bif Decidable.decide (a_595 < (0 : Int)) then
                      bif Decidable.decide ((0 : Int) ≤ a_596) then
                        some (Bool.false)
                      else
                        (cellarerlaw05_awake ).bind fun a_622 =>
                          some (a_622)
                    else
                      (cellarerlaw05_awake ).bind fun a_623 =>
                        some (a_623)
                  else
                    (cellarerlaw05_awake ).bind fun a_624 =>
                      some (a_624)
          else
            bif Decidable.decide (a_594 = (0 : Int)) then
              bif !Decidable.decide (a_595 = a_596) then
                some (Bool.false)
              else
                bif Decidable.decide (a_594 < (0 : Int)) then
                  bif Decidable.decide (a_595 ≤ (0 : Int)) then
                    bif Decidable.decide ((0 : Int) ≤ a_596) then
                      some (Bool.false)
                    else
                      (cellarerlaw05_awake ).bind fun a_625 =>
                        some (a_625)
                  else
                    bif Decidable.decide (a_594 ≤ (0 : Int)) then
                      bif Decidable.decide (a_595 < (0 : Int)) then
                        bif Decidable.decide ((0 : Int) ≤ a_596) then
                          some (Bool.false)
                        else
                          (cellarerlaw05_awake ).bind fun a_626 =>
                            some (a_626)
                      else
                        (cellarerlaw05_awake ).bind fun a_627 =>
                          some (a_627)
                    else
                      (cellarerlaw05_awake ).bind fun a_628 =>
                        some (a_628)
                else
                  bif Decidable.decide (a_594 ≤ (0 : Int)) then
                    bif Decidable.decide (a_595 < (0 : Int)) then
                      bif Decidable.decide ((0 : Int) ≤ a_596) then
                        some (Bool.false)
                      else
                        (cellarerlaw05_awake ).bind fun a_629 =>
                          some (a_629)
                    else
                      (cellarerlaw05_awake ).bind fun a_630 =>
                        some (a_630)
                  else
                    (cellarerlaw05_awake ).bind fun a_631 =>
                      some (a_631)
            else
              bif Decidable.decide (a_594 < (0 : Int)) then
                bif Decidable.decide (a_595 ≤ (0 : Int)) then
                  bif Decidable.decide ((0 : Int) ≤ a_596) then
                    some (Bool.false)
                  else
                    (cellarerlaw05_awake ).bind fun a_632 =>
                      some (a_632)
                else
                  bif Decidable.decide (a_594 ≤ (0 : Int)) then
                    bif Decidable.decide (a_595 < (0 : Int)) then
                      bif Decidable.decide ((0 : Int) ≤ a_596) then
                        some (Bool.false)
                      else
                        (cellarerlaw05_awake ).bind fun a_633 =>
                          some (a_633)
                    else
                      (cellarerlaw05_awake ).bind fun a_634 =>
                        some (a_634)
                  else
                    (cellarerlaw05_awake ).bind fun a_635 =>
                      some (a_635)
              else
                bif Decidable.decide (a_594 ≤ (0 : Int)) then
                  bif Decidable.decide (a_595 < (0 : Int)) then
                    bif Decidable.decide ((0 : Int) ≤ a_596) then
                      some (Bool.false)
                    else
                      (cellarerlaw05_awake ).bind fun a_636 =>
                        some (a_636)
                  else
                    (cellarerlaw05_awake ).bind fun a_637 =>
                      some (a_637)
                else
                  (cellarerlaw05_awake ).bind fun a_638 =>
                    some (a_638)))

def cellarerlaw05_VersionBest_res (r : Bool) : AV := (fun (r_666 : Bool) => AV.bool r_666) r

def cellarerlaw05_VersionBest_out (r : Bool) : List AO := (fun (r_666 : Bool) => []) r

noncomputable def cellarerlaw05_VersionBest_b0 (l_645 : List (List UInt8)) (s_667 : Int) : Option ((Int) ⊕ (Bool ⊕ Unit)) :=
  bif Decidable.decide (s_667 < (↑(List.length l_645) : Int)) then
    if (0 : Int) ≤ s_667 ∧ s_667 < (↑(List.length l_645) : Int) then
      bif Decidable.decide ((200 : Int) < (↑(List.length (List.getD l_645 (Int.toNat s_667) [])) : Int)) then
        (cellarerlaw05_awake ).bind fun a_647 =>
          some (Sum.inr (Sum.inl (a_647)))
      else
        some (Sum.inl (IntKind.wrap IntKind.i64 (s_667 + (1 : Int))))
    else none
  else
    some (Sum.inr (Sum.inr ()))

noncomputable def cellarerlaw05_VersionBest_b1 (l_655 : List (List UInt8)) (at_656 : Int) (s_668 : Int) : Option ((Int) ⊕ (Unit ⊕ Unit)) :=
  bif Decidable.decide (s_668 < (↑(List.length l_655) : Int)) then
    if (0 : Int) ≤ s_668 ∧ s_668 < (↑(List.length l_655) : Int) then
      if (0 : Int) ≤ at_656 ∧ at_656 < (↑(List.length l_655) : Int) then
        (version_Compare (List.getD l_655 (Int.toNat s_668) []) (List.getD l_655 (Int.toNat at_656) [])).bind fun a_658 =>
          bif Decidable.decide ((0 : Int) < a_658) then
            some (Sum.inr (Sum.inl ()))
          else
            bif Decidable.decide (a_658 = (0 : Int)) then
              bif Decidable.decide (s_668 < at_656) then
                some (Sum.inr (Sum.inl ()))
              else
                some (Sum.inl (IntKind.wrap IntKind.i64 (s_668 + (1 : Int))))
            else
              some (Sum.inl (IntKind.wrap IntKind.i64 (s_668 + (1 : Int))))
      else none
    else none
  else
    some (Sum.inr (Sum.inr ()))

noncomputable def cellarerlaw05_VersionBest (l_643 : List (List UInt8)) : Option (Bool) :=
  bif Decidable.decide ((40 : Int) < (↑(List.length l_643) : Int)) then
    (cellarerlaw05_awake ).bind fun a_644 =>
      some (a_644)
  else
    (iter (cellarerlaw05_VersionBest_b0 (l_643)) ((0 : Int))).bind (Sum.elim (fun t_649 =>
      some (t_649)) (fun t_650 =>
      (version_Best (l_643)).bind fun a_651 =>
        bif Decidable.decide ((↑(List.length l_643) : Int) = (0 : Int)) then
          bif Decidable.decide (a_651 = (-1 : Int)) then
            (cellarerlaw05_awake ).bind fun a_652 =>
              some (a_652)
          else
            some (Bool.false)
        else
          Option.bind (α := Unit ⊕ Unit) (
            bif Decidable.decide (a_651 < (0 : Int)) then
              some (Sum.inl ())
            else
              bif Decidable.decide ((↑(List.length l_643) : Int) ≤ a_651) then
                some (Sum.inl ())
              else
                some (Sum.inr ())) (Sum.elim (fun t_653 =>
            some (Bool.false)) (fun t_654 =>
            (iter (cellarerlaw05_VersionBest_b1 (l_643) (a_651)) ((0 : Int))).bind (Sum.elim (fun t_659 =>
              some (Bool.false)) (fun t_660 =>
              (cellarerlaw05_awake ).bind fun a_661 =>
                some (a_661)))))))

def cellarerlaw05_VersionCompares_res (r : Bool) : AV := (fun (r_690 : Bool) => AV.bool r_690) r

def cellarerlaw05_VersionCompares_out (r : Bool) : List AO := (fun (r_690 : Bool) => []) r

noncomputable def cellarerlaw05_VersionCompares (a_674 : List UInt8) (b_675 : List UInt8) (op_676 : List UInt8) : Option (Bool) :=
  Option.bind (α := Bool ⊕ Unit) (
    bif Decidable.decide ((500 : Int) < (↑(List.length a_674) : Int)) then
      (cellarerlaw05_awake ).bind fun a_677 =>
        some (Sum.inl (a_677))
    else
      bif Decidable.decide ((500 : Int) < (↑(List.length b_675) : Int)) then
        (cellarerlaw05_awake ).bind fun a_678 =>
          some (Sum.inl (a_678))
      else
        some (Sum.inr ())) (Sum.elim (fun t_680 =>
    some (t_680)) (fun t_681 =>
    (version_Compare (a_674) (b_675)).bind fun a_682 =>
      (cellarerref05_Compare (a_674) (b_675)).bind fun a_683 =>
        bif Decidable.decide (a_682 = a_683) then
          (version_Compare (b_675) (a_674)).bind fun a_684 =>
            bif Decidable.decide (a_684 = IntKind.wrap IntKind.i64 ((0 : Int) - a_682)) then
              (version_Holds (a_674) (op_676) (b_675)).bind fun a_685 =>
                (cellarerref05_Holds (a_674) (op_676) (b_675)).bind fun a_686 =>
                  bif Decidable.decide (a_685 = a_686) then
                    (cellarerlaw05_awake ).bind fun a_687 =>
                      some (a_687)
                  else
                    some (Bool.false)
            else
              some (Bool.false)
        else
          some (Bool.false)))

end Go.Cellar
