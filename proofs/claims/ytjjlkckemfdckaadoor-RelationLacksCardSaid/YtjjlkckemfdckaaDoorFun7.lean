/- The program's functions, as plain Lean functions: printed by a program out of the translation. No condition. -/
import Derived.Test.YtjjlkckemfdckaaDoorLib7
set_option maxRecDepth 4000
set_option linter.unusedVariables false
namespace Go.Cellar
open Go

def cellarerref05_Digit_res (r : Bool) : AV := (fun (r_3 : Bool) => AV.bool r_3) r

def cellarerref05_Digit_out (r : Bool) : List AO := (fun (r_3 : Bool) => []) r

noncomputable def cellarerref05_Digit (c_1 : Int) : Option (Bool) :=
  bif Decidable.decide ((48 : Int) ≤ c_1) then
    some (Decidable.decide (c_1 ≤ (57 : Int)))
  else
    some (Bool.false)

def cellarerref05_at_res (r : Int) : AV := (fun (r_19 : Int) => AV.int IntKind.i64 r_19) r

def cellarerref05_at_out (r : Int) : List AO := (fun (r_19 : Int) => []) r

noncomputable def cellarerref05_at_b0 (s_10 : List UInt8) (c_11 : Int) (last_12 : Bool) (s_20 : Int × Int) : Option ((Int × Int) ⊕ (Int)) :=
  bif Decidable.decide (Prod.snd s_20 < (↑(List.length s_10) : Int)) then
    if (0 : Int) ≤ Prod.snd s_20 ∧ Prod.snd s_20 < (↑(List.length s_10) : Int) then
      bif Decidable.decide ((↑(UInt8.toNat (List.getD s_10 (Int.toNat (Prod.snd s_20)) (0 : UInt8))) : Int) = c_11) then
        bif last_12 then
          some (Sum.inl (Prod.snd s_20, IntKind.wrap IntKind.i64 (Prod.snd s_20 + (1 : Int))))
        else
          bif Decidable.decide (Prod.fst s_20 < (0 : Int)) then
            some (Sum.inl (Prod.snd s_20, IntKind.wrap IntKind.i64 (Prod.snd s_20 + (1 : Int))))
          else
            some (Sum.inl (Prod.fst s_20, IntKind.wrap IntKind.i64 (Prod.snd s_20 + (1 : Int))))
      else
        some (Sum.inl (Prod.fst s_20, IntKind.wrap IntKind.i64 (Prod.snd s_20 + (1 : Int))))
    else none
  else
    some (Sum.inr (Prod.fst s_20))

noncomputable def cellarerref05_at (s_7 : List UInt8) (c_8 : Int) (last_9 : Bool) : Option (Int) :=
  (iter (cellarerref05_at_b0 (s_7) (c_8) (last_9)) ((-1 : Int), (0 : Int))).bind (fun t_16 =>
    some (t_16))

def version_digit_res (r : Bool) : AV := (fun (r_25 : Bool) => AV.bool r_25) r

def version_digit_out (r : Bool) : List AO := (fun (r_25 : Bool) => []) r

noncomputable def version_digit (c_23 : Int) : Option (Bool) :=
  bif Decidable.decide ((48 : Int) ≤ c_23) then
    some (Decidable.decide (c_23 ≤ (57 : Int)))
  else
    some (Bool.false)

def version_letter_res (r : Bool) : AV := (fun (r_29 : Bool) => AV.bool r_29) r

def version_letter_out (r : Bool) : List AO := (fun (r_29 : Bool) => []) r

noncomputable def version_letter (c_27 : Int) : Option (Bool) :=
  bif Decidable.decide ((97 : Int) ≤ c_27) then
    bif Decidable.decide (c_27 ≤ (122 : Int)) then
      some (Bool.true)
    else
      bif Decidable.decide ((65 : Int) ≤ c_27) then
        some (Decidable.decide (c_27 ≤ (90 : Int)))
      else
        some (Bool.false)
  else
    bif Decidable.decide ((65 : Int) ≤ c_27) then
      some (Decidable.decide (c_27 ≤ (90 : Int)))
    else
      some (Bool.false)

def cellarerref05_Letter_res (r : Bool) : AV := (fun (r_33 : Bool) => AV.bool r_33) r

def cellarerref05_Letter_out (r : Bool) : List AO := (fun (r_33 : Bool) => []) r

noncomputable def cellarerref05_Letter (c_31 : Int) : Option (Bool) :=
  bif Decidable.decide ((97 : Int) ≤ c_31) then
    bif Decidable.decide (c_31 ≤ (122 : Int)) then
      some (Bool.true)
    else
      bif Decidable.decide ((65 : Int) ≤ c_31) then
        some (Decidable.decide (c_31 ≤ (90 : Int)))
      else
        some (Bool.false)
  else
    bif Decidable.decide ((65 : Int) ≤ c_31) then
      some (Decidable.decide (c_31 ≤ (90 : Int)))
    else
      some (Bool.false)

def stringslite_IndexByte_res (r : Int) : AV := (fun (r_41 : Int) => AV.int IntKind.i64 r_41) r

def stringslite_IndexByte_out (r : Int) : List AO := (fun (r_41 : Int) => []) r

noncomputable def stringslite_IndexByte (s_38 : List UInt8) (c_39 : Int) : Option (Int) :=
  if (0 : Int) ≤ c_39 ∧ c_39 < (256 : Int) then
    some (idxByte c_39 s_38 (0 : Int))
  else none

def strings_IndexByte_res (r : Int) : AV := (fun (r_44 : Int) => AV.int IntKind.i64 r_44) r

def strings_IndexByte_out (r : Int) : List AO := (fun (r_44 : Int) => []) r

noncomputable def strings_IndexByte (s_36 : List UInt8) (c_37 : Int) : Option (Int) :=
  (stringslite_IndexByte (s_36) (c_37)).bind fun a_42 =>
    some (a_42)

def bytealg_LastIndexByteString_res (r : Int) : AV := (fun (r_59 : Int) => AV.int IntKind.i64 r_59) r

def bytealg_LastIndexByteString_out (r : Int) : List AO := (fun (r_59 : Int) => []) r

noncomputable def bytealg_LastIndexByteString_b0 (s_51 : List UInt8) (c_52 : Int) (s_60 : Int) : Option ((Int) ⊕ (Int ⊕ Unit)) :=
  bif Decidable.decide ((0 : Int) ≤ s_60) then
    if (0 : Int) ≤ s_60 ∧ s_60 < (↑(List.length s_51) : Int) then
      bif Decidable.decide ((↑(UInt8.toNat (List.getD s_51 (Int.toNat s_60) (0 : UInt8))) : Int) = c_52) then
        some (Sum.inr (Sum.inl (s_60)))
      else
        some (Sum.inl (IntKind.wrap IntKind.i64 (s_60 - (1 : Int))))
    else none
  else
    some (Sum.inr (Sum.inr ()))

noncomputable def bytealg_LastIndexByteString (s_49 : List UInt8) (c_50 : Int) : Option (Int) :=
  (iter (bytealg_LastIndexByteString_b0 (s_49) (c_50)) (IntKind.wrap IntKind.i64 ((↑(List.length s_49) : Int) - (1 : Int)))).bind (Sum.elim (fun t_55 =>
    some (t_55)) (fun t_56 =>
    some ((-1 : Int))))

def strings_LastIndexByte_res (r : Int) : AV := (fun (r_64 : Int) => AV.int IntKind.i64 r_64) r

def strings_LastIndexByte_out (r : Int) : List AO := (fun (r_64 : Int) => []) r

noncomputable def strings_LastIndexByte (s_47 : List UInt8) (c_48 : Int) : Option (Int) :=
  (bytealg_LastIndexByteString (s_47) (c_48)).bind fun a_62 =>
    some (a_62)

def version_only_res (r : Bool) : AV := (fun (r_80 : Bool) => AV.bool r_80) r

def version_only_out (r : Bool) : List AO := (fun (r_80 : Bool) => []) r

noncomputable def version_only_b0 (s_69 : List UInt8) (marks_70 : List UInt8) (t_71 : Int) (s_81 : Int) : Option ((Int) ⊕ (Unit ⊕ Unit)) :=
  bif Decidable.decide (s_81 < t_71) then
    if (0 : Int) ≤ s_81 ∧ s_81 < (↑(List.length s_69) : Int) then
      (version_digit ((↑(UInt8.toNat (List.getD s_69 (Int.toNat s_81) (0 : UInt8))) : Int))).bind fun a_73 =>
        bif !a_73 then
          if (0 : Int) ≤ s_81 ∧ s_81 < (↑(List.length s_69) : Int) then
            (version_letter ((↑(UInt8.toNat (List.getD s_69 (Int.toNat s_81) (0 : UInt8))) : Int))).bind fun a_74 =>
              bif !a_74 then
                if (0 : Int) ≤ s_81 ∧ s_81 < (↑(List.length s_69) : Int) then
                  (strings_IndexByte (marks_70) ((↑(UInt8.toNat (List.getD s_69 (Int.toNat s_81) (0 : UInt8))) : Int))).bind fun a_75 =>
                    bif Decidable.decide (a_75 < (0 : Int)) then
                      some (Sum.inr (Sum.inl ()))
                    else
                      some (Sum.inl (IntKind.wrap IntKind.i64 (s_81 + (1 : Int))))
                else none
              else
                some (Sum.inl (IntKind.wrap IntKind.i64 (s_81 + (1 : Int))))
          else none
        else
          some (Sum.inl (IntKind.wrap IntKind.i64 (s_81 + (1 : Int))))
    else none
  else
    some (Sum.inr (Sum.inr ()))

noncomputable def version_only (s_67 : List UInt8) (marks_68 : List UInt8) : Option (Bool) :=
  (iter (version_only_b0 (s_67) (marks_68) ((↑(List.length s_67) : Int))) ((0 : Int))).bind (Sum.elim (fun t_76 =>
    some (Bool.false)) (fun t_77 =>
    some (Bool.true)))

def cellarerref05_only_res (r : Bool) : AV := (fun (r_97 : Bool) => AV.bool r_97) r

def cellarerref05_only_out (r : Bool) : List AO := (fun (r_97 : Bool) => []) r

noncomputable def cellarerref05_only_b0 (s_87 : List UInt8) (marks_88 : List UInt8) (s_98 : Int) : Option ((Int) ⊕ (Unit ⊕ Unit)) :=
  bif Decidable.decide (s_98 < (↑(List.length s_87) : Int)) then
    if (0 : Int) ≤ s_98 ∧ s_98 < (↑(List.length s_87) : Int) then
      (cellarerref05_Digit ((↑(UInt8.toNat (List.getD s_87 (Int.toNat s_98) (0 : UInt8))) : Int))).bind fun a_90 =>
        bif !a_90 then
          if (0 : Int) ≤ s_98 ∧ s_98 < (↑(List.length s_87) : Int) then
            (cellarerref05_Letter ((↑(UInt8.toNat (List.getD s_87 (Int.toNat s_98) (0 : UInt8))) : Int))).bind fun a_91 =>
              bif !a_91 then
                if (0 : Int) ≤ s_98 ∧ s_98 < (↑(List.length s_87) : Int) then
                  (cellarerref05_at (marks_88) ((↑(UInt8.toNat (List.getD s_87 (Int.toNat s_98) (0 : UInt8))) : Int)) (Bool.false)).bind fun a_92 =>
                    bif Decidable.decide (a_92 < (0 : Int)) then
                      some (Sum.inr (Sum.inl ()))
                    else
                      some (Sum.inl (IntKind.wrap IntKind.i64 (s_98 + (1 : Int))))
                else none
              else
                some (Sum.inl (IntKind.wrap IntKind.i64 (s_98 + (1 : Int))))
          else none
        else
          some (Sum.inl (IntKind.wrap IntKind.i64 (s_98 + (1 : Int))))
    else none
  else
    some (Sum.inr (Sum.inr ()))

noncomputable def cellarerref05_only (s_85 : List UInt8) (marks_86 : List UInt8) : Option (Bool) :=
  (iter (cellarerref05_only_b0 (s_85) (marks_86)) ((0 : Int))).bind (Sum.elim (fun t_93 =>
    some (Bool.false)) (fun t_94 =>
    some (Bool.true)))

def version_epoch_res (r : Int × Bool) : AV := (fun (r_116 : Int × Bool) => AV.tup [AV.int IntKind.i64 (Prod.fst r_116), AV.bool (Prod.snd r_116)]) r

def version_epoch_out (r : Int × Bool) : List AO := (fun (r_116 : Int × Bool) => []) r

noncomputable def version_epoch_b0 (s_104 : List UInt8) (t_106 : Int) (s_117 : Int × Int) : Option ((Int × Int) ⊕ (Unit ⊕ Int)) :=
  bif Decidable.decide (Prod.snd s_117 < t_106) then
    if (0 : Int) ≤ Prod.snd s_117 ∧ Prod.snd s_117 < (↑(List.length s_104) : Int) then
      (version_digit ((↑(UInt8.toNat (List.getD s_104 (Int.toNat (Prod.snd s_117)) (0 : UInt8))) : Int))).bind fun a_108 =>
        bif !a_108 then
          some (Sum.inr (Sum.inl ()))
        else
          if (0 : Int) ≤ Prod.snd s_117 ∧ Prod.snd s_117 < (↑(List.length s_104) : Int) then
            some (Sum.inl (IntKind.wrap IntKind.i64 (IntKind.wrap IntKind.i64 (Prod.fst s_117 * (10 : Int)) + IntKind.wrap IntKind.i64 (IntKind.wrap IntKind.u8 ((↑(UInt8.toNat (List.getD s_104 (Int.toNat (Prod.snd s_117)) (0 : UInt8))) : Int) - (48 : Int)))), IntKind.wrap IntKind.i64 (Prod.snd s_117 + (1 : Int))))
          else none
    else none
  else
    some (Sum.inr (Sum.inr (Prod.fst s_117)))

noncomputable def version_epoch (s_101 : List UInt8) : Option (Int × Bool) :=
  Option.bind (α := Unit ⊕ Unit) (
    bif Decidable.decide ((↑(List.length s_101) : Int) < (1 : Int)) then
      some (Sum.inl ())
    else
      bif Decidable.decide ((9 : Int) < (↑(List.length s_101) : Int)) then
        some (Sum.inl ())
      else
        some (Sum.inr ())) (Sum.elim (fun t_102 =>
    some ((0 : Int), Bool.false)) (fun t_103 =>
    (iter (version_epoch_b0 (s_101) ((↑(List.length s_101) : Int))) ((0 : Int), (0 : Int))).bind (Sum.elim (fun t_109 =>
      some ((0 : Int), Bool.false)) (fun t_111 =>
      some (t_111, Bool.true)))))

def strings_trimLeftByte_res (r : List UInt8) : AV := (fun (r_147 : List UInt8) => AV.str r_147) r

def strings_trimLeftByte_out (r : List UInt8) : List AO := (fun (r_147 : List UInt8) => []) r

noncomputable def strings_trimLeftByte_b0 (c_139 : Int) (s_148 : List UInt8) : Option ((List UInt8) ⊕ (List UInt8)) :=
  Option.bind (α := Unit ⊕ Unit) (
    bif Decidable.decide ((0 : Int) < (↑(List.length s_148) : Int)) then
      if (0 : Int) ≤ (0 : Int) ∧ (0 : Int) < (↑(List.length s_148) : Int) then
        bif Decidable.decide ((↑(UInt8.toNat (List.getD s_148 (Int.toNat (0 : Int)) (0 : UInt8))) : Int) = c_139) then
          some (Sum.inl ())
        else
          some (Sum.inr ())
      else none
    else
      some (Sum.inr ())) (Sum.elim (fun t_140 =>
    if (0 : Int) ≤ (1 : Int) ∧ (1 : Int) ≤ (↑(List.length s_148) : Int) ∧ (↑(List.length s_148) : Int) ≤ (↑(List.length s_148) : Int) then
      some (Sum.inl (List.drop (Int.toNat (1 : Int)) (List.take (Int.toNat (↑(List.length s_148) : Int)) s_148)))
    else none) (fun t_141 =>
    some (Sum.inr (s_148))))

noncomputable def strings_trimLeftByte (s_136 : List UInt8) (c_137 : Int) : Option (List UInt8) :=
  (iter (strings_trimLeftByte_b0 (c_137)) (s_136)).bind (fun t_144 =>
    some (t_144))

def strings_TrimLeft_res (r : List UInt8) : AV := (fun (r_174 : List UInt8) => AV.str r_174) r

def strings_TrimLeft_out (r : List UInt8) : List AO := (fun (r_174 : List UInt8) => []) r

noncomputable def strings_TrimLeft (s_165 : List UInt8) : Option (List UInt8) :=
  Option.bind (α := Unit ⊕ Unit) (
    bif Decidable.decide (s_165 = []) then
      some (Sum.inl ())
    else
      some (Sum.inr ())) (Sum.elim (fun t_166 =>
    some (s_165)) (fun t_167 =>
    Option.bind (α := List UInt8) (
      (strings_trimLeftByte (s_165) ((↑(UInt8.toNat (List.getD ((fun (x : List UInt8) => x) [(48 : UInt8)]) (Int.toNat (0 : Int)) (0 : UInt8))) : Int))).bind fun a_168 =>
        some (a_168)) (fun t_170 =>
      some (t_170))))

def version_number_res (r : List UInt8 × Int) : AV := (fun (r_179 : List UInt8 × Int) => AV.tup [AV.str (Prod.fst r_179), AV.int IntKind.i64 (Prod.snd r_179)]) r

def version_number_out (r : List UInt8 × Int) : List AO := (fun (r_179 : List UInt8 × Int) => []) r

noncomputable def version_number_b0 (s_123 : List UInt8) (s_180 : Int) : Option ((Int) ⊕ (Int)) :=
  Option.bind (α := Unit ⊕ Unit) (
    bif Decidable.decide (s_180 < (↑(List.length s_123) : Int)) then
      if (0 : Int) ≤ s_180 ∧ s_180 < (↑(List.length s_123) : Int) then
        (version_digit ((↑(UInt8.toNat (List.getD s_123 (Int.toNat s_180) (0 : UInt8))) : Int))).bind fun a_126 =>
          bif a_126 then
            some (Sum.inl ())
          else
            some (Sum.inr ())
      else none
    else
      some (Sum.inr ())) (Sum.elim (fun t_127 =>
    some (Sum.inl (IntKind.wrap IntKind.i64 (s_180 + (1 : Int))))) (fun t_128 =>
    some (Sum.inr (s_180))))

noncomputable def version_number (s_121 : List UInt8) (i_122 : Int) : Option (List UInt8 × Int) :=
  (iter (version_number_b0 (s_121)) (i_122)).bind (fun t_131 =>
    if (0 : Int) ≤ i_122 ∧ i_122 ≤ t_131 ∧ t_131 ≤ (↑(List.length s_121) : Int) then
      (strings_TrimLeft (List.drop (Int.toNat i_122) (List.take (Int.toNat t_131) s_121))).bind fun a_175 =>
        some (a_175, t_131)
    else none)

def version_weight_res (r : Int) : AV := (fun (r_189 : Int) => AV.int IntKind.i64 r_189) r

def version_weight_out (r : Int) : List AO := (fun (r_189 : Int) => []) r

noncomputable def version_weight (s_184 : List UInt8) (i_185 : Int) : Option (Int) :=
  bif Decidable.decide ((↑(List.length s_184) : Int) ≤ i_185) then
    some ((0 : Int))
  else
    if (0 : Int) ≤ i_185 ∧ i_185 < (↑(List.length s_184) : Int) then
      (version_digit ((↑(UInt8.toNat (List.getD s_184 (Int.toNat i_185) (0 : UInt8))) : Int))).bind fun a_186 =>
        bif a_186 then
          some ((0 : Int))
        else
          if (0 : Int) ≤ i_185 ∧ i_185 < (↑(List.length s_184) : Int) then
            bif Decidable.decide ((↑(UInt8.toNat (List.getD s_184 (Int.toNat i_185) (0 : UInt8))) : Int) = (126 : Int)) then
              some ((-1 : Int))
            else
              if (0 : Int) ≤ i_185 ∧ i_185 < (↑(List.length s_184) : Int) then
                (version_letter ((↑(UInt8.toNat (List.getD s_184 (Int.toNat i_185) (0 : UInt8))) : Int))).bind fun a_187 =>
                  bif a_187 then
                    if (0 : Int) ≤ i_185 ∧ i_185 < (↑(List.length s_184) : Int) then
                      some (IntKind.wrap IntKind.i64 (↑(UInt8.toNat (List.getD s_184 (Int.toNat i_185) (0 : UInt8))) : Int))
                    else none
                  else
                    if (0 : Int) ≤ i_185 ∧ i_185 < (↑(List.length s_184) : Int) then
                      some (IntKind.wrap IntKind.i64 (IntKind.wrap IntKind.i64 (↑(UInt8.toNat (List.getD s_184 (Int.toNat i_185) (0 : UInt8))) : Int) + (256 : Int)))
                    else none
              else none
          else none
    else none

def cellarerref05_piece_res (r : List UInt8 × List UInt8 × List UInt8) : AV := (fun (r_224 : List UInt8 × List UInt8 × List UInt8) => AV.tup [AV.str (Prod.fst r_224), AV.str (Prod.fst (Prod.snd r_224)), AV.str (Prod.snd (Prod.snd r_224))]) r

def cellarerref05_piece_out (r : List UInt8 × List UInt8 × List UInt8) : List AO := (fun (r_224 : List UInt8 × List UInt8 × List UInt8) => []) r

noncomputable def cellarerref05_piece_b0 (s_192 : List UInt8) (s_225 : Int) : Option ((Int) ⊕ (Int)) :=
  Option.bind (α := Unit ⊕ Unit) (
    bif Decidable.decide (s_225 < (↑(List.length s_192) : Int)) then
      if (0 : Int) ≤ s_225 ∧ s_225 < (↑(List.length s_192) : Int) then
        (cellarerref05_Digit ((↑(UInt8.toNat (List.getD s_192 (Int.toNat s_225) (0 : UInt8))) : Int))).bind fun a_194 =>
          bif !a_194 then
            some (Sum.inl ())
          else
            some (Sum.inr ())
      else none
    else
      some (Sum.inr ())) (Sum.elim (fun t_195 =>
    some (Sum.inl (IntKind.wrap IntKind.i64 (s_225 + (1 : Int))))) (fun t_196 =>
    some (Sum.inr (s_225))))

noncomputable def cellarerref05_piece_b1 (s_200 : List UInt8) (s_226 : Int) : Option ((Int) ⊕ (Int)) :=
  Option.bind (α := Unit ⊕ Unit) (
    bif Decidable.decide (s_226 < (↑(List.length s_200) : Int)) then
      if (0 : Int) ≤ s_226 ∧ s_226 < (↑(List.length s_200) : Int) then
        (cellarerref05_Digit ((↑(UInt8.toNat (List.getD s_200 (Int.toNat s_226) (0 : UInt8))) : Int))).bind fun a_203 =>
          bif a_203 then
            some (Sum.inl ())
          else
            some (Sum.inr ())
      else none
    else
      some (Sum.inr ())) (Sum.elim (fun t_204 =>
    some (Sum.inl (IntKind.wrap IntKind.i64 (s_226 + (1 : Int))))) (fun t_205 =>
    some (Sum.inr (s_226))))

noncomputable def cellarerref05_piece_b2  (s_227 : List UInt8) : Option ((List UInt8) ⊕ (List UInt8)) :=
  Option.bind (α := Unit ⊕ Unit) (
    bif Decidable.decide ((0 : Int) < (↑(List.length s_227) : Int)) then
      if (0 : Int) ≤ (0 : Int) ∧ (0 : Int) < (↑(List.length s_227) : Int) then
        bif Decidable.decide ((↑(UInt8.toNat (List.getD s_227 (Int.toNat (0 : Int)) (0 : UInt8))) : Int) = (48 : Int)) then
          some (Sum.inl ())
        else
          some (Sum.inr ())
      else none
    else
      some (Sum.inr ())) (Sum.elim (fun t_213 =>
    if (0 : Int) ≤ (1 : Int) ∧ (1 : Int) ≤ (↑(List.length s_227) : Int) ∧ (↑(List.length s_227) : Int) ≤ (↑(List.length s_227) : Int) then
      some (Sum.inl (List.drop (Int.toNat (1 : Int)) (List.take (Int.toNat (↑(List.length s_227) : Int)) s_227)))
    else none) (fun t_214 =>
    some (Sum.inr (s_227))))

noncomputable def cellarerref05_piece (s_191 : List UInt8) : Option (List UInt8 × List UInt8 × List UInt8) :=
  (iter (cellarerref05_piece_b0 (s_191)) ((0 : Int))).bind (fun t_199 =>
    (iter (cellarerref05_piece_b1 (s_191)) (t_199)).bind (fun t_208 =>
      if (0 : Int) ≤ t_199 ∧ t_199 ≤ t_208 ∧ t_208 ≤ (↑(List.length s_191) : Int) then
        (iter (cellarerref05_piece_b2 ) (List.drop (Int.toNat t_199) (List.take (Int.toNat t_208) s_191))).bind (fun t_217 =>
          if (0 : Int) ≤ (0 : Int) ∧ (0 : Int) ≤ t_199 ∧ t_199 ≤ (↑(List.length s_191) : Int) then
            if (0 : Int) ≤ t_208 ∧ t_208 ≤ (↑(List.length s_191) : Int) ∧ (↑(List.length s_191) : Int) ≤ (↑(List.length s_191) : Int) then
              some (List.drop (Int.toNat (0 : Int)) (List.take (Int.toNat t_199) s_191), t_217, List.drop (Int.toNat t_208) (List.take (Int.toNat (↑(List.length s_191) : Int)) s_191))
            else none
          else none)
      else none))

def cellarerref05_numbers_res (r : Int) : AV := (fun (r_236 : Int) => AV.int IntKind.i64 r_236) r

def cellarerref05_numbers_out (r : Int) : List AO := (fun (r_236 : Int) => []) r

noncomputable def cellarerref05_numbers (a_233 : List UInt8) (b_234 : List UInt8) : Option (Int) :=
  bif Decidable.decide ((↑(List.length a_233) : Int) < (↑(List.length b_234) : Int)) then
    some ((-1 : Int))
  else
    bif Decidable.decide ((↑(List.length a_233) : Int) = (↑(List.length b_234) : Int)) then
      bif Go.Op.bytesLess a_233 b_234 then
        some ((-1 : Int))
      else
        bif Decidable.decide (a_233 = b_234) then
          some ((0 : Int))
        else
          some ((1 : Int))
    else
      bif Decidable.decide (a_233 = b_234) then
        some ((0 : Int))
      else
        some ((1 : Int))

def cellarerref05_weight_res (r : Int) : AV := (fun (r_241 : Int) => AV.int IntKind.i64 r_241) r

def cellarerref05_weight_out (r : Int) : List AO := (fun (r_241 : Int) => []) r

noncomputable def cellarerref05_weight (c_238 : Int) : Option (Int) :=
  bif Decidable.decide (c_238 = (126 : Int)) then
    some ((-1 : Int))
  else
    (cellarerref05_Letter (c_238)).bind fun a_239 =>
      bif a_239 then
        some (IntKind.wrap IntKind.i64 c_238)
      else
        some (IntKind.wrap IntKind.i64 ((256 : Int) + IntKind.wrap IntKind.i64 c_238))

def cellarerref05_words_res (r : Int) : AV := (fun (r_265 : Int) => AV.int IntKind.i64 r_265) r

def cellarerref05_words_out (r : Int) : List AO := (fun (r_265 : Int) => []) r

noncomputable def cellarerref05_words_b0 (a_246 : List UInt8) (b_247 : List UInt8) (s_266 : Int) : Option ((Int) ⊕ (Int ⊕ Unit)) :=
  Option.bind (α := Unit ⊕ Unit) (
    bif Decidable.decide (s_266 < (↑(List.length a_246) : Int)) then
      some (Sum.inl ())
    else
      bif Decidable.decide (s_266 < (↑(List.length b_247) : Int)) then
        some (Sum.inl ())
      else
        some (Sum.inr ())) (Sum.elim (fun t_249 =>
    Option.bind (α := Int) (
      bif Decidable.decide (s_266 < (↑(List.length a_246) : Int)) then
        if (0 : Int) ≤ s_266 ∧ s_266 < (↑(List.length a_246) : Int) then
          (cellarerref05_weight ((↑(UInt8.toNat (List.getD a_246 (Int.toNat s_266) (0 : UInt8))) : Int))).bind fun a_250 =>
            some (a_250)
        else none
      else
        some ((0 : Int))) (fun t_252 =>
      Option.bind (α := Int) (
        bif Decidable.decide (s_266 < (↑(List.length b_247) : Int)) then
          if (0 : Int) ≤ s_266 ∧ s_266 < (↑(List.length b_247) : Int) then
            (cellarerref05_weight ((↑(UInt8.toNat (List.getD b_247 (Int.toNat s_266) (0 : UInt8))) : Int))).bind fun a_253 =>
              some (a_253)
          else none
        else
          some ((0 : Int))) (fun t_255 =>
        bif Decidable.decide (t_252 < t_255) then
          some (Sum.inr (Sum.inl ((-1 : Int))))
        else
          bif Decidable.decide (t_255 < t_252) then
            some (Sum.inr (Sum.inl ((1 : Int))))
          else
            some (Sum.inl (IntKind.wrap IntKind.i64 (s_266 + (1 : Int))))))) (fun t_258 =>
    some (Sum.inr (Sum.inr ()))))

noncomputable def cellarerref05_words (a_244 : List UInt8) (b_245 : List UInt8) : Option (Int) :=
  (iter (cellarerref05_words_b0 (a_244) (b_245)) ((0 : Int))).bind (Sum.elim (fun t_261 =>
    some (t_261)) (fun t_262 =>
    some ((0 : Int))))

def cmp_isNaN_int__res (r : Bool) : AV := (fun (r_291 : Bool) => AV.bool r_291) r

def cmp_isNaN_int__out (r : Bool) : List AO := (fun (r_291 : Bool) => []) r

noncomputable def cmp_isNaN_int_ (x_289 : Int) : Option (Bool) :=
  some (!Decidable.decide (x_289 = x_289))

def cmp_Compare_int__res (r : Int) : AV := (fun (r_295 : Int) => AV.int IntKind.i64 r_295) r

def cmp_Compare_int__out (r : Int) : List AO := (fun (r_295 : Int) => []) r

noncomputable def cmp_Compare_int_ (x_287 : Int) (y_288 : Int) : Option (Int) :=
  (cmp_isNaN_int_ (x_287)).bind fun a_292 =>
    (cmp_isNaN_int_ (y_288)).bind fun a_293 =>
      bif a_292 then
        bif a_293 then
          some ((0 : Int))
        else
          some ((-1 : Int))
      else
        bif a_293 then
          some ((1 : Int))
        else
          bif Decidable.decide (x_287 < y_288) then
            some ((-1 : Int))
          else
            bif Decidable.decide (y_288 < x_287) then
              some ((1 : Int))
            else
              some ((0 : Int))

def cmp_isNaN_string__res (r : Bool) : AV := (fun (r_311 : Bool) => AV.bool r_311) r

def cmp_isNaN_string__out (r : Bool) : List AO := (fun (r_311 : Bool) => []) r

noncomputable def cmp_isNaN_string_ (x_309 : List UInt8) : Option (Bool) :=
  some (!Decidable.decide (x_309 = x_309))

def cmp_Compare_string__res (r : Int) : AV := (fun (r_315 : Int) => AV.int IntKind.i64 r_315) r

def cmp_Compare_string__out (r : Int) : List AO := (fun (r_315 : Int) => []) r

noncomputable def cmp_Compare_string_ (x_307 : List UInt8) (y_308 : List UInt8) : Option (Int) :=
  (cmp_isNaN_string_ (x_307)).bind fun a_312 =>
    (cmp_isNaN_string_ (y_308)).bind fun a_313 =>
      bif a_312 then
        bif a_313 then
          some ((0 : Int))
        else
          some ((-1 : Int))
      else
        bif a_313 then
          some ((1 : Int))
        else
          bif Go.Op.bytesLess x_307 y_308 then
            some ((-1 : Int))
          else
            bif !(Go.Op.bytesLess x_307 y_308 || Decidable.decide (x_307 = y_308)) then
              some ((1 : Int))
            else
              some ((0 : Int))

def version_Order_res (r : Int) : AV := (fun (r_325 : Int) => AV.int IntKind.i64 r_325) r

def version_Order_out (r : Int) : List AO := (fun (r_325 : Int) => []) r

noncomputable def version_Order_b0 (a_277 : List UInt8) (b_278 : List UInt8) (s_327 : Int × Int) : Option ((Int × Int) ⊕ (Int ⊕ Int × Int)) :=
  Option.bind (α := Unit ⊕ Unit) (
    bif Decidable.decide (Prod.fst s_327 < (↑(List.length a_277) : Int)) then
      if (0 : Int) ≤ Prod.fst s_327 ∧ Prod.fst s_327 < (↑(List.length a_277) : Int) then
        (version_digit ((↑(UInt8.toNat (List.getD a_277 (Int.toNat (Prod.fst s_327)) (0 : UInt8))) : Int))).bind fun a_281 =>
          bif !a_281 then
            some (Sum.inl ())
          else
            bif Decidable.decide (Prod.snd s_327 < (↑(List.length b_278) : Int)) then
              if (0 : Int) ≤ Prod.snd s_327 ∧ Prod.snd s_327 < (↑(List.length b_278) : Int) then
                (version_digit ((↑(UInt8.toNat (List.getD b_278 (Int.toNat (Prod.snd s_327)) (0 : UInt8))) : Int))).bind fun a_282 =>
                  bif !a_282 then
                    some (Sum.inl ())
                  else
                    some (Sum.inr ())
              else none
            else
              some (Sum.inr ())
      else none
    else
      bif Decidable.decide (Prod.snd s_327 < (↑(List.length b_278) : Int)) then
        if (0 : Int) ≤ Prod.snd s_327 ∧ Prod.snd s_327 < (↑(List.length b_278) : Int) then
          (version_digit ((↑(UInt8.toNat (List.getD b_278 (Int.toNat (Prod.snd s_327)) (0 : UInt8))) : Int))).bind fun a_283 =>
            bif !a_283 then
              some (Sum.inl ())
            else
              some (Sum.inr ())
        else none
      else
        some (Sum.inr ())) (Sum.elim (fun t_284 =>
    (version_weight (a_277) (Prod.fst s_327)).bind fun a_285 =>
      (version_weight (b_278) (Prod.snd s_327)).bind fun a_286 =>
        (cmp_Compare_int_ (a_285) (a_286)).bind fun a_296 =>
          bif !Decidable.decide (a_296 = (0 : Int)) then
            some (Sum.inr (Sum.inl (a_296)))
          else
            some (Sum.inl (IntKind.wrap IntKind.i64 (Prod.fst s_327 + (1 : Int)), IntKind.wrap IntKind.i64 (Prod.snd s_327 + (1 : Int))))) (fun t_297 =>
    some (Sum.inr (Sum.inr (Prod.fst s_327, Prod.snd s_327)))))

noncomputable def version_Order_b1 (a_272 : List UInt8) (b_273 : List UInt8) (s_326 : Int × Int) : Option ((Int × Int) ⊕ (Int ⊕ Unit)) :=
  Option.bind (α := Unit ⊕ Unit) (
    bif Decidable.decide (Prod.fst s_326 < (↑(List.length a_272) : Int)) then
      some (Sum.inl ())
    else
      bif Decidable.decide (Prod.snd s_326 < (↑(List.length b_273) : Int)) then
        some (Sum.inl ())
      else
        some (Sum.inr ())) (Sum.elim (fun t_276 =>
    (iter (version_Order_b0 (a_272) (b_273)) (Prod.fst s_326, Prod.snd s_326)).bind (Sum.elim (fun t_300 =>
      some (Sum.inr (Sum.inl (t_300)))) (fun t_303 =>
      (version_number (a_272) (Prod.fst t_303)).bind fun a_304 =>
        (version_number (b_273) (Prod.snd t_303)).bind fun a_305 =>
          bif Decidable.decide (Prod.fst a_304 = Prod.fst a_305) then
            some (Sum.inl (Prod.snd a_304, Prod.snd a_305))
          else
            (cmp_Compare_int_ ((↑(List.length (Prod.fst a_304)) : Int)) ((↑(List.length (Prod.fst a_305)) : Int))).bind fun a_306 =>
              bif !Decidable.decide (a_306 = (0 : Int)) then
                some (Sum.inr (Sum.inl (a_306)))
              else
                (cmp_Compare_string_ (Prod.fst a_304) (Prod.fst a_305)).bind fun a_316 =>
                  some (Sum.inr (Sum.inl (a_316)))))) (fun t_318 =>
    some (Sum.inr (Sum.inr ()))))

noncomputable def version_Order (a_270 : List UInt8) (b_271 : List UInt8) : Option (Int) :=
  (iter (version_Order_b1 (a_270) (b_271)) ((0 : Int), (0 : Int))).bind (Sum.elim (fun t_321 =>
    some (t_321)) (fun t_322 =>
    some ((0 : Int))))

def cellarerref05_Order_res (r : Int) : AV := (fun (r_348 : Int) => AV.int IntKind.i64 r_348) r

def cellarerref05_Order_out (r : Int) : List AO := (fun (r_348 : Int) => []) r

noncomputable def cellarerref05_Order_b0  (s_349 : List UInt8 × List UInt8) : Option ((List UInt8 × List UInt8) ⊕ (Int ⊕ Unit)) :=
  Option.bind (α := Unit ⊕ Unit) (
    bif !Decidable.decide (Prod.fst s_349 = []) then
      some (Sum.inl ())
    else
      bif !Decidable.decide (Prod.snd s_349 = []) then
        some (Sum.inl ())
      else
        some (Sum.inr ())) (Sum.elim (fun t_336 =>
    (cellarerref05_piece (Prod.fst s_349)).bind fun a_337 =>
      (cellarerref05_piece (Prod.snd s_349)).bind fun a_338 =>
        (cellarerref05_words (Prod.fst a_337) (Prod.fst a_338)).bind fun a_339 =>
          bif !Decidable.decide (a_339 = (0 : Int)) then
            some (Sum.inr (Sum.inl (a_339)))
          else
            (cellarerref05_numbers (Prod.fst (Prod.snd a_337)) (Prod.fst (Prod.snd a_338))).bind fun a_340 =>
              bif !Decidable.decide (a_340 = (0 : Int)) then
                some (Sum.inr (Sum.inl (a_340)))
              else
                some (Sum.inl (Prod.snd (Prod.snd a_337), Prod.snd (Prod.snd a_338)))) (fun t_341 =>
    some (Sum.inr (Sum.inr ()))))

noncomputable def cellarerref05_Order (a_332 : List UInt8) (b_333 : List UInt8) : Option (Int) :=
  (iter (cellarerref05_Order_b0 ) (a_332, b_333)).bind (Sum.elim (fun t_344 =>
    some (t_344)) (fun t_345 =>
    some ((0 : Int))))

def version_Parse_res (r : Int × List UInt8 × List UInt8 × Int) : AV := (fun (r_373 : Int × List UInt8 × List UInt8 × Int) => AV.tup [AV.agg [AV.int IntKind.i64 (Prod.fst r_373), AV.str (Prod.fst (Prod.snd r_373)), AV.str (Prod.fst (Prod.snd (Prod.snd r_373)))], AV.int IntKind.i64 (Prod.snd (Prod.snd (Prod.snd r_373)))]) r

def version_Parse_out (r : Int × List UInt8 × List UInt8 × Int) : List AO := (fun (r_373 : Int × List UInt8 × List UInt8 × Int) => []) r

noncomputable def version_Parse (s_352 : List UInt8) : Option (Int × List UInt8 × List UInt8 × Int) :=
  bif Decidable.decide ((80 : Int) < (↑(List.length s_352) : Int)) then
    some ((0 : Int), [], [], (8 : Int))
  else
    Option.bind (α := Unit ⊕ List UInt8 × List UInt8 × Int) (
      (strings_IndexByte (s_352) ((58 : Int))).bind fun a_353 =>
        bif Decidable.decide ((0 : Int) ≤ a_353) then
          if (0 : Int) ≤ (0 : Int) ∧ (0 : Int) ≤ a_353 ∧ a_353 ≤ (↑(List.length s_352) : Int) then
            (version_epoch (List.drop (Int.toNat (0 : Int)) (List.take (Int.toNat a_353) s_352))).bind fun a_354 =>
              bif !Prod.snd a_354 then
                some (Sum.inl ())
              else
                if (0 : Int) ≤ IntKind.wrap IntKind.i64 (a_353 + (1 : Int)) ∧ IntKind.wrap IntKind.i64 (a_353 + (1 : Int)) ≤ (↑(List.length s_352) : Int) ∧ (↑(List.length s_352) : Int) ≤ (↑(List.length s_352) : Int) then
                  some (Sum.inr ([(46 : UInt8), (43 : UInt8), (45 : UInt8), (126 : UInt8), (58 : UInt8)], List.drop (Int.toNat (IntKind.wrap IntKind.i64 (a_353 + (1 : Int)))) (List.take (Int.toNat (↑(List.length s_352) : Int)) s_352), Prod.fst a_354))
                else none
          else none
        else
          some (Sum.inr ([(46 : UInt8), (43 : UInt8), (45 : UInt8), (126 : UInt8)], s_352, (0 : Int)))) (Sum.elim (fun t_355 =>
      some ((0 : Int), [], [], (2 : Int))) (fun t_359 =>
      Option.bind (α := List UInt8 × List UInt8) (
        (strings_LastIndexByte (Prod.fst (Prod.snd t_359)) ((45 : Int))).bind fun a_360 =>
          bif Decidable.decide ((0 : Int) ≤ a_360) then
            if (0 : Int) ≤ (0 : Int) ∧ (0 : Int) ≤ a_360 ∧ a_360 ≤ (↑(List.length (Prod.fst (Prod.snd t_359))) : Int) then
              if (0 : Int) ≤ IntKind.wrap IntKind.i64 (a_360 + (1 : Int)) ∧ IntKind.wrap IntKind.i64 (a_360 + (1 : Int)) ≤ (↑(List.length (Prod.fst (Prod.snd t_359))) : Int) ∧ (↑(List.length (Prod.fst (Prod.snd t_359))) : Int) ≤ (↑(List.length (Prod.fst (Prod.snd t_359))) : Int) then
                some (List.drop (Int.toNat (0 : Int)) (List.take (Int.toNat a_360) (Prod.fst (Prod.snd t_359))), List.drop (Int.toNat (IntKind.wrap IntKind.i64 (a_360 + (1 : Int)))) (List.take (Int.toNat (↑(List.length (Prod.fst (Prod.snd t_359))) : Int)) (Prod.fst (Prod.snd t_359))))
              else none
            else none
          else
            some (Prod.fst (Prod.snd t_359), [(48 : UInt8)])) (fun t_363 =>
        bif Decidable.decide (Prod.fst t_363 = []) then
          some ((0 : Int), [], [], (2 : Int))
        else
          if (0 : Int) ≤ (0 : Int) ∧ (0 : Int) < (↑(List.length (Prod.fst t_363)) : Int) then
            (version_digit ((↑(UInt8.toNat (List.getD (Prod.fst t_363) (Int.toNat (0 : Int)) (0 : UInt8))) : Int))).bind fun a_364 =>
              bif !a_364 then
                some ((0 : Int), [], [], (2 : Int))
              else
                (version_only (Prod.fst t_363) (Prod.fst t_359)).bind fun a_365 =>
                  bif !a_365 then
                    some ((0 : Int), [], [], (2 : Int))
                  else
                    bif Decidable.decide (Prod.snd t_363 = []) then
                      some ((0 : Int), [], [], (2 : Int))
                    else
                      (version_only (Prod.snd t_363) ([(46 : UInt8), (43 : UInt8), (126 : UInt8)])).bind fun a_366 =>
                        bif !a_366 then
                          some ((0 : Int), [], [], (2 : Int))
                        else
                          some (Prod.snd (Prod.snd t_359), Prod.fst t_363, Prod.snd t_363, (0 : Int))
          else none)))

def cellarerref05_Parse_res (r : Int × List UInt8 × List UInt8 × Int) : AV := (fun (r_417 : Int × List UInt8 × List UInt8 × Int) => AV.tup [AV.agg [AV.int IntKind.i64 (Prod.fst r_417), AV.str (Prod.fst (Prod.snd r_417)), AV.str (Prod.fst (Prod.snd (Prod.snd r_417)))], AV.int IntKind.i64 (Prod.snd (Prod.snd (Prod.snd r_417)))]) r

def cellarerref05_Parse_out (r : Int × List UInt8 × List UInt8 × Int) : List AO := (fun (r_417 : Int × List UInt8 × List UInt8 × Int) => []) r

noncomputable def cellarerref05_Parse_b0 (s_379 : List UInt8) (colon_380 : Int) (s_418 : Int × Int) : Option ((Int × Int) ⊕ (Unit ⊕ Int)) :=
  bif Decidable.decide (Prod.fst s_418 < colon_380) then
    if (0 : Int) ≤ Prod.fst s_418 ∧ Prod.fst s_418 < (↑(List.length s_379) : Int) then
      (cellarerref05_Digit ((↑(UInt8.toNat (List.getD s_379 (Int.toNat (Prod.fst s_418)) (0 : UInt8))) : Int))).bind fun a_393 =>
        bif !a_393 then
          some (Sum.inr (Sum.inl ()))
        else
          if (0 : Int) ≤ Prod.fst s_418 ∧ Prod.fst s_418 < (↑(List.length s_379) : Int) then
            some (Sum.inl (IntKind.wrap IntKind.i64 (Prod.fst s_418 + (1 : Int)), IntKind.wrap IntKind.i64 (IntKind.wrap IntKind.i64 (IntKind.wrap IntKind.i64 ((10 : Int) * Prod.snd s_418) + IntKind.wrap IntKind.i64 (↑(UInt8.toNat (List.getD s_379 (Int.toNat (Prod.fst s_418)) (0 : UInt8))) : Int)) - (48 : Int))))
          else none
    else none
  else
    some (Sum.inr (Sum.inr (Prod.snd s_418)))

noncomputable def cellarerref05_Parse (s_375 : List UInt8) : Option (Int × List UInt8 × List UInt8 × Int) :=
  bif Decidable.decide ((80 : Int) < (↑(List.length s_375) : Int)) then
    some ((0 : Int), [], [], (8 : Int))
  else
    (cellarerref05_at (s_375) ((58 : Int)) (Bool.false)).bind fun a_376 =>
      Option.bind (α := Unit ⊕ List UInt8 × List UInt8 × Int) (
        bif Decidable.decide ((0 : Int) ≤ a_376) then
          if (0 : Int) ≤ IntKind.wrap IntKind.i64 (a_376 + (1 : Int)) ∧ IntKind.wrap IntKind.i64 (a_376 + (1 : Int)) ≤ (↑(List.length s_375) : Int) ∧ (↑(List.length s_375) : Int) ≤ (↑(List.length s_375) : Int) then
            Option.bind (α := Unit ⊕ Unit) (
              bif Decidable.decide (a_376 < (1 : Int)) then
                some (Sum.inl ())
              else
                bif Decidable.decide ((9 : Int) < a_376) then
                  some (Sum.inl ())
                else
                  some (Sum.inr ())) (Sum.elim (fun t_377 =>
              some (Sum.inl ())) (fun t_378 =>
              (iter (cellarerref05_Parse_b0 (s_375) (a_376)) ((0 : Int), (0 : Int))).bind (Sum.elim (fun t_394 =>
                some (Sum.inl ())) (fun t_396 =>
                some (Sum.inr ([(46 : UInt8), (43 : UInt8), (45 : UInt8), (126 : UInt8), (58 : UInt8)], List.drop (Int.toNat (IntKind.wrap IntKind.i64 (a_376 + (1 : Int)))) (List.take (Int.toNat (↑(List.length s_375) : Int)) s_375), t_396))))))
          else none
        else
          some (Sum.inr ([(46 : UInt8), (43 : UInt8), (45 : UInt8), (126 : UInt8)], s_375, (0 : Int)))) (Sum.elim (fun t_399 =>
        some ((0 : Int), [], [], (2 : Int))) (fun t_403 =>
        (cellarerref05_at (Prod.fst (Prod.snd t_403)) ((45 : Int)) (Bool.true)).bind fun a_404 =>
          Option.bind (α := List UInt8 × List UInt8) (
            bif Decidable.decide ((0 : Int) ≤ a_404) then
              if (0 : Int) ≤ (0 : Int) ∧ (0 : Int) ≤ a_404 ∧ a_404 ≤ (↑(List.length (Prod.fst (Prod.snd t_403))) : Int) then
                if (0 : Int) ≤ IntKind.wrap IntKind.i64 (a_404 + (1 : Int)) ∧ IntKind.wrap IntKind.i64 (a_404 + (1 : Int)) ≤ (↑(List.length (Prod.fst (Prod.snd t_403))) : Int) ∧ (↑(List.length (Prod.fst (Prod.snd t_403))) : Int) ≤ (↑(List.length (Prod.fst (Prod.snd t_403))) : Int) then
                  some (List.drop (Int.toNat (0 : Int)) (List.take (Int.toNat a_404) (Prod.fst (Prod.snd t_403))), List.drop (Int.toNat (IntKind.wrap IntKind.i64 (a_404 + (1 : Int)))) (List.take (Int.toNat (↑(List.length (Prod.fst (Prod.snd t_403))) : Int)) (Prod.fst (Prod.snd t_403))))
                else none
              else none
            else
              some (Prod.fst (Prod.snd t_403), [(48 : UInt8)])) (fun t_407 =>
            bif Decidable.decide (Prod.fst t_407 = []) then
              some ((0 : Int), [], [], (2 : Int))
            else
              if (0 : Int) ≤ (0 : Int) ∧ (0 : Int) < (↑(List.length (Prod.fst t_407)) : Int) then
                (cellarerref05_Digit ((↑(UInt8.toNat (List.getD (Prod.fst t_407) (Int.toNat (0 : Int)) (0 : UInt8))) : Int))).bind fun a_408 =>
                  bif !a_408 then
                    some ((0 : Int), [], [], (2 : Int))
                  else
                    (cellarerref05_only (Prod.fst t_407) (Prod.fst t_403)).bind fun a_409 =>
                      bif !a_409 then
                        some ((0 : Int), [], [], (2 : Int))
                      else
                        bif Decidable.decide (Prod.snd t_407 = []) then
                          some ((0 : Int), [], [], (2 : Int))
                        else
                          (cellarerref05_only (Prod.snd t_407) ([(46 : UInt8), (43 : UInt8), (126 : UInt8)])).bind fun a_410 =>
                            bif !a_410 then
                              some ((0 : Int), [], [], (2 : Int))
                            else
                              some (Prod.snd (Prod.snd t_403), Prod.fst t_407, Prod.snd t_407, (0 : Int))
              else none)))

def version_parsed_res (r : Int × List UInt8 × List UInt8) : AV := (fun (r_429 : Int × List UInt8 × List UInt8) => AV.agg [AV.int IntKind.i64 (Prod.fst r_429), AV.str (Prod.fst (Prod.snd r_429)), AV.str (Prod.snd (Prod.snd r_429))]) r

def version_parsed_out (r : Int × List UInt8 × List UInt8) : List AO := (fun (r_429 : Int × List UInt8 × List UInt8) => []) r

noncomputable def version_parsed (s_424 : List UInt8) : Option (Int × List UInt8 × List UInt8) :=
  (version_Parse (s_424)).bind fun a_425 =>
    bif !Decidable.decide (Prod.snd (Prod.snd (Prod.snd a_425)) = (0 : Int)) then
      some ((0 : Int), s_424, [(48 : UInt8)])
    else
      some (Prod.fst a_425, Prod.fst (Prod.snd a_425), Prod.fst (Prod.snd (Prod.snd a_425)))

def version_Compare_res (r : Int) : AV := (fun (r_436 : Int) => AV.int IntKind.i64 r_436) r

def version_Compare_out (r : Int) : List AO := (fun (r_436 : Int) => []) r

noncomputable def version_Compare (a_422 : List UInt8) (b_423 : List UInt8) : Option (Int) :=
  (version_parsed (a_422)).bind fun a_430 =>
    (version_parsed (b_423)).bind fun a_431 =>
      (cmp_Compare_int_ (Prod.fst a_430) (Prod.fst a_431)).bind fun a_432 =>
        bif !Decidable.decide (a_432 = (0 : Int)) then
          some (a_432)
        else
          (version_Order (Prod.fst (Prod.snd a_430)) (Prod.fst (Prod.snd a_431))).bind fun a_433 =>
            bif !Decidable.decide (a_433 = (0 : Int)) then
              some (a_433)
            else
              (version_Order (Prod.snd (Prod.snd a_430)) (Prod.snd (Prod.snd a_431))).bind fun a_434 =>
                some (a_434)

def cellarerref05_Compare_res (r : Int) : AV := (fun (r_456 : Int) => AV.int IntKind.i64 r_456) r

def cellarerref05_Compare_out (r : Int) : List AO := (fun (r_456 : Int) => []) r

noncomputable def cellarerref05_Compare (a_439 : List UInt8) (b_440 : List UInt8) : Option (Int) :=
  (cellarerref05_Parse (a_439)).bind fun a_441 =>
    Option.bind (α := Int × List UInt8 × List UInt8) (
      bif !Decidable.decide (Prod.snd (Prod.snd (Prod.snd a_441)) = (0 : Int)) then
        some ((0 : Int), a_439, [(48 : UInt8)])
      else
        some (Prod.fst a_441, Prod.fst (Prod.snd a_441), Prod.fst (Prod.snd (Prod.snd a_441)))) (fun t_445 =>
      (cellarerref05_Parse (b_440)).bind fun a_446 =>
        Option.bind (α := Int × List UInt8 × List UInt8) (
          bif !Decidable.decide (Prod.snd (Prod.snd (Prod.snd a_446)) = (0 : Int)) then
            some ((0 : Int), b_440, [(48 : UInt8)])
          else
            some (Prod.fst a_446, Prod.fst (Prod.snd a_446), Prod.fst (Prod.snd (Prod.snd a_446)))) (fun t_450 =>
          bif Decidable.decide (Prod.fst t_445 < Prod.fst t_450) then
            some ((-1 : Int))
          else
            bif Decidable.decide (Prod.fst t_450 < Prod.fst t_445) then
              some ((1 : Int))
            else
              (cellarerref05_Order (Prod.fst (Prod.snd t_445)) (Prod.fst (Prod.snd t_450))).bind fun a_451 =>
                bif !Decidable.decide (a_451 = (0 : Int)) then
                  some (a_451)
                else
                  (cellarerref05_Order (Prod.snd (Prod.snd t_445)) (Prod.snd (Prod.snd t_450))).bind fun a_452 =>
                    some (a_452)))

def version_Holds_res (r : Bool) : AV := (fun (r_465 : Bool) => AV.bool r_465) r

def version_Holds_out (r : Bool) : List AO := (fun (r_465 : Bool) => []) r

noncomputable def version_Holds (v_460 : List UInt8) (op_461 : List UInt8) (other_462 : List UInt8) : Option (Bool) :=
  (version_Compare (v_460) (other_462)).bind fun a_463 =>
    bif Decidable.decide (op_461 = [(60 : UInt8), (60 : UInt8)]) then
      some (Decidable.decide (a_463 < (0 : Int)))
    else
      bif Decidable.decide (op_461 = [(60 : UInt8), (61 : UInt8)]) then
        some (Decidable.decide (a_463 ≤ (0 : Int)))
      else
        bif Decidable.decide (op_461 = [(61 : UInt8)]) then
          some (Decidable.decide (a_463 = (0 : Int)))
        else
          bif Decidable.decide (op_461 = [(62 : UInt8), (61 : UInt8)]) then
            some (Decidable.decide ((0 : Int) ≤ a_463))
          else
            bif Decidable.decide (op_461 = [(62 : UInt8), (62 : UInt8)]) then
              some (Decidable.decide ((0 : Int) < a_463))
            else
              some (Decidable.decide (op_461 = []))

def cellarerref05_Holds_res (r : Bool) : AV := (fun (r_474 : Bool) => AV.bool r_474) r

def cellarerref05_Holds_out (r : Bool) : List AO := (fun (r_474 : Bool) => []) r

noncomputable def cellarerref05_Holds (v_469 : List UInt8) (op_470 : List UInt8) (other_471 : List UInt8) : Option (Bool) :=
  (cellarerref05_Compare (v_469) (other_471)).bind fun a_472 =>
    bif Decidable.decide (op_470 = []) then
      some (Bool.true)
    else
      bif Decidable.decide (op_470 = [(60 : UInt8), (60 : UInt8)]) then
        bif Decidable.decide (a_472 < (0 : Int)) then
          some (Bool.true)
        else
          bif Decidable.decide (op_470 = [(60 : UInt8), (61 : UInt8)]) then
            bif Decidable.decide (a_472 ≤ (0 : Int)) then
              some (Bool.true)
            else
              bif Decidable.decide (op_470 = [(61 : UInt8)]) then
                bif Decidable.decide (a_472 = (0 : Int)) then
                  some (Bool.true)
                else
                  bif Decidable.decide (op_470 = [(62 : UInt8), (61 : UInt8)]) then
                    bif Decidable.decide ((0 : Int) ≤ a_472) then
                      some (Bool.true)
                    else
                      bif Decidable.decide (op_470 = [(62 : UInt8), (62 : UInt8)]) then
                        some (Decidable.decide ((0 : Int) < a_472))
                      else
                        some (Bool.false)
                  else
                    bif Decidable.decide (op_470 = [(62 : UInt8), (62 : UInt8)]) then
                      some (Decidable.decide ((0 : Int) < a_472))
                    else
                      some (Bool.false)
              else
                bif Decidable.decide (op_470 = [(62 : UInt8), (61 : UInt8)]) then
                  bif Decidable.decide ((0 : Int) ≤ a_472) then
                    some (Bool.true)
                  else
                    bif Decidable.decide (op_470 = [(62 : UInt8), (62 : UInt8)]) then
                      some (Decidable.decide ((0 : Int) < a_472))
                    else
                      some (Bool.false)
                else
                  bif Decidable.decide (op_470 = [(62 : UInt8), (62 : UInt8)]) then
                    some (Decidable.decide ((0 : Int) < a_472))
                  else
                    some (Bool.false)
          else
            bif Decidable.decide (op_470 = [(61 : UInt8)]) then
              bif Decidable.decide (a_472 = (0 : Int)) then
                some (Bool.true)
              else
                bif Decidable.decide (op_470 = [(62 : UInt8), (61 : UInt8)]) then
                  bif Decidable.decide ((0 : Int) ≤ a_472) then
                    some (Bool.true)
                  else
                    bif Decidable.decide (op_470 = [(62 : UInt8), (62 : UInt8)]) then
                      some (Decidable.decide ((0 : Int) < a_472))
                    else
                      some (Bool.false)
                else
                  bif Decidable.decide (op_470 = [(62 : UInt8), (62 : UInt8)]) then
                    some (Decidable.decide ((0 : Int) < a_472))
                  else
                    some (Bool.false)
            else
              bif Decidable.decide (op_470 = [(62 : UInt8), (61 : UInt8)]) then
                bif Decidable.decide ((0 : Int) ≤ a_472) then
                  some (Bool.true)
                else
                  bif Decidable.decide (op_470 = [(62 : UInt8), (62 : UInt8)]) then
                    some (Decidable.decide ((0 : Int) < a_472))
                  else
                    some (Bool.false)
              else
                bif Decidable.decide (op_470 = [(62 : UInt8), (62 : UInt8)]) then
                  some (Decidable.decide ((0 : Int) < a_472))
                else
                  some (Bool.false)
      else
        bif Decidable.decide (op_470 = [(60 : UInt8), (61 : UInt8)]) then
          bif Decidable.decide (a_472 ≤ (0 : Int)) then
            some (Bool.true)
          else
            bif Decidable.decide (op_470 = [(61 : UInt8)]) then
              bif Decidable.decide (a_472 = (0 : Int)) then
                some (Bool.true)
              else
                bif Decidable.decide (op_470 = [(62 : UInt8), (61 : UInt8)]) then
                  bif Decidable.decide ((0 : Int) ≤ a_472) then
                    some (Bool.true)
                  else
                    bif Decidable.decide (op_470 = [(62 : UInt8), (62 : UInt8)]) then
                      some (Decidable.decide ((0 : Int) < a_472))
                    else
                      some (Bool.false)
                else
                  bif Decidable.decide (op_470 = [(62 : UInt8), (62 : UInt8)]) then
                    some (Decidable.decide ((0 : Int) < a_472))
                  else
                    some (Bool.false)
            else
              bif Decidable.decide (op_470 = [(62 : UInt8), (61 : UInt8)]) then
                bif Decidable.decide ((0 : Int) ≤ a_472) then
                  some (Bool.true)
                else
                  bif Decidable.decide (op_470 = [(62 : UInt8), (62 : UInt8)]) then
                    some (Decidable.decide ((0 : Int) < a_472))
                  else
                    some (Bool.false)
              else
                bif Decidable.decide (op_470 = [(62 : UInt8), (62 : UInt8)]) then
                  some (Decidable.decide ((0 : Int) < a_472))
                else
                  some (Bool.false)
        else
          bif Decidable.decide (op_470 = [(61 : UInt8)]) then
            bif Decidable.decide (a_472 = (0 : Int)) then
              some (Bool.true)
            else
              bif Decidable.decide (op_470 = [(62 : UInt8), (61 : UInt8)]) then
                bif Decidable.decide ((0 : Int) ≤ a_472) then
                  some (Bool.true)
                else
                  bif Decidable.decide (op_470 = [(62 : UInt8), (62 : UInt8)]) then
                    some (Decidable.decide ((0 : Int) < a_472))
                  else
                    some (Bool.false)
              else
                bif Decidable.decide (op_470 = [(62 : UInt8), (62 : UInt8)]) then
                  some (Decidable.decide ((0 : Int) < a_472))
                else
                  some (Bool.false)
          else
            bif Decidable.decide (op_470 = [(62 : UInt8), (61 : UInt8)]) then
              bif Decidable.decide ((0 : Int) ≤ a_472) then
                some (Bool.true)
              else
                bif Decidable.decide (op_470 = [(62 : UInt8), (62 : UInt8)]) then
                  some (Decidable.decide ((0 : Int) < a_472))
                else
                  some (Bool.false)
            else
              bif Decidable.decide (op_470 = [(62 : UInt8), (62 : UInt8)]) then
                some (Decidable.decide ((0 : Int) < a_472))
              else
                some (Bool.false)

def path_Name_res (r : Bool) : AV := (fun (r_490 : Bool) => AV.bool r_490) r

def path_Name_out (r : Bool) : List AO := (fun (r_490 : Bool) => []) r

noncomputable def path_Name_b0 (s_479 : List UInt8) (t_480 : Int) (s_491 : Int) : Option ((Int) ⊕ (Unit ⊕ Unit)) :=
  bif Decidable.decide (s_491 < t_480) then
    if (0 : Int) ≤ s_491 ∧ s_491 < (↑(List.length s_479) : Int) then
      Option.bind (α := Bool) (
        bif Decidable.decide ((97 : Int) ≤ (↑(UInt8.toNat (List.getD s_479 (Int.toNat s_491) (0 : UInt8))) : Int)) then
          bif Decidable.decide ((↑(UInt8.toNat (List.getD s_479 (Int.toNat s_491) (0 : UInt8))) : Int) ≤ (122 : Int)) then
            some (Bool.true)
          else
            bif Decidable.decide ((48 : Int) ≤ (↑(UInt8.toNat (List.getD s_479 (Int.toNat s_491) (0 : UInt8))) : Int)) then
              some (Decidable.decide ((↑(UInt8.toNat (List.getD s_479 (Int.toNat s_491) (0 : UInt8))) : Int) ≤ (57 : Int)))
            else
              some (Bool.false)
        else
          bif Decidable.decide ((48 : Int) ≤ (↑(UInt8.toNat (List.getD s_479 (Int.toNat s_491) (0 : UInt8))) : Int)) then
            some (Decidable.decide ((↑(UInt8.toNat (List.getD s_479 (Int.toNat s_491) (0 : UInt8))) : Int) ≤ (57 : Int)))
          else
            some (Bool.false)) (fun t_483 =>
        bif !t_483 then
          bif Decidable.decide (s_491 = (0 : Int)) then
            some (Sum.inr (Sum.inl ()))
          else
            bif !Decidable.decide ((↑(UInt8.toNat (List.getD s_479 (Int.toNat s_491) (0 : UInt8))) : Int) = (43 : Int)) then
              bif !Decidable.decide ((↑(UInt8.toNat (List.getD s_479 (Int.toNat s_491) (0 : UInt8))) : Int) = (45 : Int)) then
                bif !Decidable.decide ((↑(UInt8.toNat (List.getD s_479 (Int.toNat s_491) (0 : UInt8))) : Int) = (46 : Int)) then
                  some (Sum.inr (Sum.inl ()))
                else
                  some (Sum.inl (IntKind.wrap IntKind.i64 (s_491 + (1 : Int))))
              else
                some (Sum.inl (IntKind.wrap IntKind.i64 (s_491 + (1 : Int))))
            else
              some (Sum.inl (IntKind.wrap IntKind.i64 (s_491 + (1 : Int))))
        else
          some (Sum.inl (IntKind.wrap IntKind.i64 (s_491 + (1 : Int)))))
    else none
  else
    some (Sum.inr (Sum.inr ()))

noncomputable def path_Name (s_476 : List UInt8) : Option (Bool) :=
  Option.bind (α := Unit ⊕ Unit) (
    bif Decidable.decide ((↑(List.length s_476) : Int) = (0 : Int)) then
      some (Sum.inl ())
    else
      bif Decidable.decide ((60 : Int) < (↑(List.length s_476) : Int)) then
        some (Sum.inl ())
      else
        some (Sum.inr ())) (Sum.elim (fun t_477 =>
    some (Bool.false)) (fun t_478 =>
    (iter (path_Name_b0 (s_476) ((↑(List.length s_476) : Int))) ((0 : Int))).bind (Sum.elim (fun t_485 =>
      some (Bool.false)) (fun t_486 =>
      some (Bool.true)))))

def cellarerref02_Name_res (r : Bool) : AV := (fun (r_510 : Bool) => AV.bool r_510) r

def cellarerref02_Name_out (r : Bool) : List AO := (fun (r_510 : Bool) => []) r

noncomputable def cellarerref02_Name_b0 (s_495 : List UInt8) (s_511 : Int) : Option ((Int) ⊕ (Unit ⊕ Unit)) :=
  bif Decidable.decide (s_511 < (↑(List.length s_495) : Int)) then
    if (0 : Int) ≤ s_511 ∧ s_511 < (↑(List.length s_495) : Int) then
      Option.bind (α := Bool) (
        bif Decidable.decide ((97 : Int) ≤ (↑(UInt8.toNat (List.getD s_495 (Int.toNat s_511) (0 : UInt8))) : Int)) then
          some (Decidable.decide ((↑(UInt8.toNat (List.getD s_495 (Int.toNat s_511) (0 : UInt8))) : Int) ≤ (122 : Int)))
        else
          some (Bool.false)) (fun t_498 =>
        Option.bind (α := Bool) (
          bif Decidable.decide ((48 : Int) ≤ (↑(UInt8.toNat (List.getD s_495 (Int.toNat s_511) (0 : UInt8))) : Int)) then
            some (Decidable.decide ((↑(UInt8.toNat (List.getD s_495 (Int.toNat s_511) (0 : UInt8))) : Int) ≤ (57 : Int)))
          else
            some (Bool.false)) (fun t_500 =>
          Option.bind (α := Bool) (
            bif Decidable.decide ((↑(UInt8.toNat (List.getD s_495 (Int.toNat s_511) (0 : UInt8))) : Int) = (43 : Int)) then
              some (Bool.true)
            else
              bif Decidable.decide ((↑(UInt8.toNat (List.getD s_495 (Int.toNat s_511) (0 : UInt8))) : Int) = (45 : Int)) then
                some (Bool.true)
              else
                some (Decidable.decide ((↑(UInt8.toNat (List.getD s_495 (Int.toNat s_511) (0 : UInt8))) : Int) = (46 : Int)))) (fun t_502 =>
            bif !t_498 then
              bif !t_500 then
                bif !t_502 then
                  some (Sum.inr (Sum.inl ()))
                else
                  bif t_502 then
                    bif Decidable.decide (s_511 = (0 : Int)) then
                      some (Sum.inr (Sum.inl ()))
                    else
                      some (Sum.inl (IntKind.wrap IntKind.i64 (s_511 + (1 : Int))))
                  else
                    some (Sum.inl (IntKind.wrap IntKind.i64 (s_511 + (1 : Int))))
              else
                bif t_502 then
                  bif Decidable.decide (s_511 = (0 : Int)) then
                    some (Sum.inr (Sum.inl ()))
                  else
                    some (Sum.inl (IntKind.wrap IntKind.i64 (s_511 + (1 : Int))))
                else
                  some (Sum.inl (IntKind.wrap IntKind.i64 (s_511 + (1 : Int))))
            else
              bif t_502 then
                bif Decidable.decide (s_511 = (0 : Int)) then
                  some (Sum.inr (Sum.inl ()))
                else
                  some (Sum.inl (IntKind.wrap IntKind.i64 (s_511 + (1 : Int))))
              else
                some (Sum.inl (IntKind.wrap IntKind.i64 (s_511 + (1 : Int)))))))
    else none
  else
    some (Sum.inr (Sum.inr ()))

noncomputable def cellarerref02_Name (s_494 : List UInt8) : Option (Bool) :=
  (iter (cellarerref02_Name_b0 (s_494)) ((0 : Int))).bind (Sum.elim (fun t_506 =>
    some (Bool.false)) (fun t_507 =>
    bif Decidable.decide ((1 : Int) ≤ (↑(List.length s_494) : Int)) then
      some (Decidable.decide ((↑(List.length s_494) : Int) ≤ (60 : Int)))
    else
      some (Bool.false)))

def cellarerref06_Split_res (r : List (List UInt8)) : AV := (fun (r_531 : List (List UInt8)) => AV.view (0 : Nat) (0 : Nat) Option.none) r

def cellarerref06_Split_out (r : List (List UInt8)) : List AO := (fun (r_531 : List (List UInt8)) => [AO.row Ty.str r_531]) r

noncomputable def cellarerref06_Split_b0 (s_521 : List UInt8) (c_522 : Int) (s_532 : List UInt8 × Int × List (List UInt8)) : Option ((List UInt8 × Int × List (List UInt8)) ⊕ (List UInt8 × List (List UInt8))) :=
  bif Decidable.decide (Prod.fst (Prod.snd s_532) < (↑(List.length s_521) : Int)) then
    if (0 : Int) ≤ Prod.fst (Prod.snd s_532) ∧ Prod.fst (Prod.snd s_532) < (↑(List.length s_521) : Int) then
      bif Decidable.decide ((↑(UInt8.toNat (List.getD s_521 (Int.toNat (Prod.fst (Prod.snd s_532))) (0 : UInt8))) : Int) = c_522) then
        if (List.length (Prod.snd (Prod.snd s_532)) + List.length ((fun (x : List (Ty.T Ty.str)) => x) [Prod.fst s_532])) * (16 : Nat) ≤ (17592186044416 : Nat) then
          some (Sum.inl ([], IntKind.wrap IntKind.i64 (Prod.fst (Prod.snd s_532) + (1 : Int)), Prod.snd (Prod.snd s_532) ++ [Prod.fst s_532]))
        else none
      else
        if (0 : Int) ≤ Prod.fst (Prod.snd s_532) ∧ Prod.fst (Prod.snd s_532) ≤ IntKind.wrap IntKind.i64 (Prod.fst (Prod.snd s_532) + (1 : Int)) ∧ IntKind.wrap IntKind.i64 (Prod.fst (Prod.snd s_532) + (1 : Int)) ≤ (↑(List.length s_521) : Int) then
          if List.length (Prod.fst s_532) + List.length (List.drop (Int.toNat (Prod.fst (Prod.snd s_532))) (List.take (Int.toNat (IntKind.wrap IntKind.i64 (Prod.fst (Prod.snd s_532) + (1 : Int)))) s_521)) ≤ (140737488355328 : Nat) then
            some (Sum.inl (Prod.fst s_532 ++ List.drop (Int.toNat (Prod.fst (Prod.snd s_532))) (List.take (Int.toNat (IntKind.wrap IntKind.i64 (Prod.fst (Prod.snd s_532) + (1 : Int)))) s_521), IntKind.wrap IntKind.i64 (Prod.fst (Prod.snd s_532) + (1 : Int)), Prod.snd (Prod.snd s_532)))
          else none
        else none
    else none
  else
    some (Sum.inr (Prod.fst s_532, Prod.snd (Prod.snd s_532)))

noncomputable def cellarerref06_Split (s_515 : List UInt8) (c_516 : Int) : Option (List (List UInt8)) :=
  (iter (cellarerref06_Split_b0 (s_515) (c_516)) ([], (0 : Int), [])).bind (fun t_528 =>
    if (List.length (Prod.snd t_528) + List.length ((fun (x : List (Ty.T Ty.str)) => x) [Prod.fst t_528])) * (16 : Nat) ≤ (17592186044416 : Nat) then
      some (Prod.snd t_528 ++ [Prod.fst t_528])
    else none)

def cellarerref06_Join_res (r : List UInt8) : AV := (fun (r_549 : List UInt8) => AV.str r_549) r

def cellarerref06_Join_out (r : List UInt8) : List AO := (fun (r_549 : List UInt8) => []) r

noncomputable def cellarerref06_Join_b0 (l_538 : List (List UInt8)) (between_539 : List UInt8) (s_550 : List UInt8 × Int) : Option ((List UInt8 × Int) ⊕ (List UInt8)) :=
  bif Decidable.decide (Prod.snd s_550 < (↑(List.length l_538) : Int)) then
    Option.bind (α := List UInt8) (
      bif Decidable.decide ((0 : Int) < Prod.snd s_550) then
        if List.length (Prod.fst s_550) + List.length between_539 ≤ (140737488355328 : Nat) then
          some (Prod.fst s_550 ++ between_539)
        else none
      else
        some (Prod.fst s_550)) (fun t_543 =>
      if (0 : Int) ≤ Prod.snd s_550 ∧ Prod.snd s_550 < (↑(List.length l_538) : Int) then
        if List.length t_543 + List.length (List.getD l_538 (Int.toNat (Prod.snd s_550)) []) ≤ (140737488355328 : Nat) then
          some (Sum.inl (t_543 ++ List.getD l_538 (Int.toNat (Prod.snd s_550)) [], IntKind.wrap IntKind.i64 (Prod.snd s_550 + (1 : Int))))
        else none
      else none)
  else
    some (Sum.inr (Prod.fst s_550))

noncomputable def cellarerref06_Join (l_536 : List (List UInt8)) (between_537 : List UInt8) : Option (List UInt8) :=
  (iter (cellarerref06_Join_b0 (l_536) (between_537)) ([], (0 : Int))).bind (fun t_546 =>
    some (t_546))

def relation_Right_res (r : Bool) : AV := (fun (r_562 : Bool) => AV.bool r_562) r

def relation_Right_out (r : Bool) : List AO := (fun (r_562 : Bool) => []) r

noncomputable def relation_Right (x_553 : List UInt8) (x_554 : List UInt8) (x_555 : List UInt8) : Option (Bool) :=
  (path_Name (x_553)).bind fun a_556 =>
    bif !a_556 then
      some (Bool.false)
    else
      bif Decidable.decide (x_554 = []) then
        some (Decidable.decide (x_555 = []))
      else
        Option.bind (α := Bool) (
          bif Decidable.decide (x_554 = [(60 : UInt8), (60 : UInt8)]) then
            some (Bool.true)
          else
            bif Decidable.decide (x_554 = [(60 : UInt8), (61 : UInt8)]) then
              some (Bool.true)
            else
              bif Decidable.decide (x_554 = [(61 : UInt8)]) then
                some (Bool.true)
              else
                bif Decidable.decide (x_554 = [(62 : UInt8), (61 : UInt8)]) then
                  some (Bool.true)
                else
                  some (Decidable.decide (x_554 = [(62 : UInt8), (62 : UInt8)]))) (fun t_558 =>
          bif t_558 then
            (version_Parse (x_555)).bind fun a_559 =>
              some (Decidable.decide (Prod.snd (Prod.snd (Prod.snd a_559)) = (0 : Int)))
          else
            some (Bool.false))

def cellarerref07_Right_res (r : Bool) : AV := (fun (r_570 : Bool) => AV.bool r_570) r

def cellarerref07_Right_out (r : Bool) : List AO := (fun (r_570 : Bool) => []) r

noncomputable def cellarerref07_Right (x_564 : List UInt8) (x_565 : List UInt8) (x_566 : List UInt8) : Option (Bool) :=
  (cellarerref02_Name (x_564)).bind fun a_567 =>
    bif !a_567 then
      some (Bool.false)
    else
      bif Decidable.decide (x_565 = []) then
        some (Decidable.decide (x_566 = []))
      else
        (cellarerref05_Parse (x_566)).bind fun a_568 =>
          bif Decidable.decide (x_565 = [(60 : UInt8), (60 : UInt8)]) then
            some (Decidable.decide (Prod.snd (Prod.snd (Prod.snd a_568)) = (0 : Int)))
          else
            bif Decidable.decide (x_565 = [(60 : UInt8), (61 : UInt8)]) then
              some (Decidable.decide (Prod.snd (Prod.snd (Prod.snd a_568)) = (0 : Int)))
            else
              bif Decidable.decide (x_565 = [(61 : UInt8)]) then
                some (Decidable.decide (Prod.snd (Prod.snd (Prod.snd a_568)) = (0 : Int)))
              else
                bif Decidable.decide (x_565 = [(62 : UInt8), (61 : UInt8)]) then
                  some (Decidable.decide (Prod.snd (Prod.snd (Prod.snd a_568)) = (0 : Int)))
                else
                  bif Decidable.decide (x_565 = [(62 : UInt8), (62 : UInt8)]) then
                    some (Decidable.decide (Prod.snd (Prod.snd (Prod.snd a_568)) = (0 : Int)))
                  else
                    some (Bool.false)

def relation_Text_res (r : List UInt8) : AV := (fun (r_576 : List UInt8) => AV.str r_576) r

def relation_Text_out (r : List UInt8) : List AO := (fun (r_576 : List UInt8) => []) r

noncomputable def relation_Text (x_572 : List UInt8) (x_573 : List UInt8) (x_574 : List UInt8) : Option (List UInt8) :=
  bif Decidable.decide (x_573 = []) then
    some (x_572)
  else
    if List.length x_572 + List.length ((fun (x : List UInt8) => x) [(32 : UInt8), (40 : UInt8)]) ≤ (140737488355328 : Nat) then
      if List.length (x_572 ++ [(32 : UInt8), (40 : UInt8)]) + List.length x_573 ≤ (140737488355328 : Nat) then
        if List.length (x_572 ++ [(32 : UInt8), (40 : UInt8)] ++ x_573) + List.length ((fun (x : List UInt8) => x) [(32 : UInt8)]) ≤ (140737488355328 : Nat) then
          if List.length (x_572 ++ [(32 : UInt8), (40 : UInt8)] ++ x_573 ++ [(32 : UInt8)]) + List.length x_574 ≤ (140737488355328 : Nat) then
            if List.length (x_572 ++ [(32 : UInt8), (40 : UInt8)] ++ x_573 ++ [(32 : UInt8)] ++ x_574) + List.length ((fun (x : List UInt8) => x) [(41 : UInt8)]) ≤ (140737488355328 : Nat) then
              some (x_572 ++ [(32 : UInt8), (40 : UInt8)] ++ x_573 ++ [(32 : UInt8)] ++ x_574 ++ [(41 : UInt8)])
            else none
          else none
        else none
      else none
    else none

def cellarerref07_Text_res (r : List UInt8) : AV := (fun (r_582 : List UInt8) => AV.str r_582) r

def cellarerref07_Text_out (r : List UInt8) : List AO := (fun (r_582 : List UInt8) => []) r

noncomputable def cellarerref07_Text (x_578 : List UInt8) (x_579 : List UInt8) (x_580 : List UInt8) : Option (List UInt8) :=
  bif Decidable.decide (x_579 = []) then
    some (x_578)
  else
    if List.length x_578 + List.length ((fun (x : List UInt8) => x) [(32 : UInt8), (40 : UInt8)]) ≤ (140737488355328 : Nat) then
      if List.length (x_578 ++ [(32 : UInt8), (40 : UInt8)]) + List.length x_579 ≤ (140737488355328 : Nat) then
        if List.length (x_578 ++ [(32 : UInt8), (40 : UInt8)] ++ x_579) + List.length ((fun (x : List UInt8) => x) [(32 : UInt8)]) ≤ (140737488355328 : Nat) then
          if List.length (x_578 ++ [(32 : UInt8), (40 : UInt8)] ++ x_579 ++ [(32 : UInt8)]) + List.length x_580 ≤ (140737488355328 : Nat) then
            if List.length (x_578 ++ [(32 : UInt8), (40 : UInt8)] ++ x_579 ++ [(32 : UInt8)] ++ x_580) + List.length ((fun (x : List UInt8) => x) [(41 : UInt8)]) ≤ (140737488355328 : Nat) then
              some (x_578 ++ [(32 : UInt8), (40 : UInt8)] ++ x_579 ++ [(32 : UInt8)] ++ x_580 ++ [(41 : UInt8)])
            else none
          else none
        else none
      else none
    else none

def relation_right_res (r : List UInt8 × Int) : AV := (fun (r_591 : List UInt8 × Int) => AV.tup [AV.str (Prod.fst r_591), AV.int IntKind.i64 (Prod.snd r_591)]) r

def relation_right_out (r : List UInt8 × Int) : List AO := (fun (r_591 : List UInt8 × Int) => []) r

noncomputable def relation_right (x_584 : List UInt8) (x_585 : List UInt8) (x_586 : List UInt8) : Option (List UInt8 × Int) :=
  (relation_Right (x_584) (x_585) (x_586)).bind fun a_587 =>
    bif !a_587 then
      some ([], (1 : Int))
    else
      (relation_Text (x_584) (x_585) (x_586)).bind fun a_588 =>
        some (a_588, (0 : Int))

def stringslite_Cut_res (r : List UInt8 × List UInt8 × Bool) : AV := (fun (r_602 : List UInt8 × List UInt8 × Bool) => AV.tup [AV.str (Prod.fst r_602), AV.str (Prod.fst (Prod.snd r_602)), AV.bool (Prod.snd (Prod.snd r_602))]) r

def stringslite_Cut_out (r : List UInt8 × List UInt8 × Bool) : List AO := (fun (r_602 : List UInt8 × List UInt8 × Bool) => []) r

noncomputable def stringslite_Cut (s_596 : List UInt8) (sep_597 : List UInt8) : Option (List UInt8 × List UInt8 × Bool) :=
  (stringslite_Index (s_596) (sep_597)).bind fun a_598 =>
    bif Decidable.decide ((0 : Int) ≤ a_598) then
      if (0 : Int) ≤ (0 : Int) ∧ (0 : Int) ≤ a_598 ∧ a_598 ≤ (↑(List.length s_596) : Int) then
        if (0 : Int) ≤ IntKind.wrap IntKind.i64 (a_598 + (↑(List.length sep_597) : Int)) ∧ IntKind.wrap IntKind.i64 (a_598 + (↑(List.length sep_597) : Int)) ≤ (↑(List.length s_596) : Int) ∧ (↑(List.length s_596) : Int) ≤ (↑(List.length s_596) : Int) then
          some (List.drop (Int.toNat (0 : Int)) (List.take (Int.toNat a_598) s_596), List.drop (Int.toNat (IntKind.wrap IntKind.i64 (a_598 + (↑(List.length sep_597) : Int)))) (List.take (Int.toNat (↑(List.length s_596) : Int)) s_596), Bool.true)
        else none
      else none
    else
      some (s_596, [], Bool.false)

def strings_Cut_res (r : List UInt8 × List UInt8 × Bool) : AV := (fun (r_607 : List UInt8 × List UInt8 × Bool) => AV.tup [AV.str (Prod.fst r_607), AV.str (Prod.fst (Prod.snd r_607)), AV.bool (Prod.snd (Prod.snd r_607))]) r

def strings_Cut_out (r : List UInt8 × List UInt8 × Bool) : List AO := (fun (r_607 : List UInt8 × List UInt8 × Bool) => []) r

noncomputable def strings_Cut (s_594 : List UInt8) (sep_595 : List UInt8) : Option (List UInt8 × List UInt8 × Bool) :=
  (stringslite_Cut (s_594) (sep_595)).bind fun a_603 =>
    some (Prod.fst a_603, Prod.fst (Prod.snd a_603), Prod.snd (Prod.snd a_603))

def stringslite_HasSuffix_res (r : Bool) : AV := (fun (r_617 : Bool) => AV.bool r_617) r

def stringslite_HasSuffix_out (r : Bool) : List AO := (fun (r_617 : Bool) => []) r

noncomputable def stringslite_HasSuffix (s_614 : List UInt8) (suffix_615 : List UInt8) : Option (Bool) :=
  bif Decidable.decide ((↑(List.length suffix_615) : Int) ≤ (↑(List.length s_614) : Int)) then
    if (0 : Int) ≤ IntKind.wrap IntKind.i64 ((↑(List.length s_614) : Int) - (↑(List.length suffix_615) : Int)) ∧ IntKind.wrap IntKind.i64 ((↑(List.length s_614) : Int) - (↑(List.length suffix_615) : Int)) ≤ (↑(List.length s_614) : Int) ∧ (↑(List.length s_614) : Int) ≤ (↑(List.length s_614) : Int) then
      some (Decidable.decide (List.drop (Int.toNat (IntKind.wrap IntKind.i64 ((↑(List.length s_614) : Int) - (↑(List.length suffix_615) : Int)))) (List.take (Int.toNat (↑(List.length s_614) : Int)) s_614) = suffix_615))
    else none
  else
    some (Bool.false)

def stringslite_TrimSuffix_res (r : List UInt8) : AV := (fun (r_620 : List UInt8) => AV.str r_620) r

def stringslite_TrimSuffix_out (r : List UInt8) : List AO := (fun (r_620 : List UInt8) => []) r

noncomputable def stringslite_TrimSuffix (s_612 : List UInt8) (suffix_613 : List UInt8) : Option (List UInt8) :=
  (stringslite_HasSuffix (s_612) (suffix_613)).bind fun a_618 =>
    bif a_618 then
      if (0 : Int) ≤ (0 : Int) ∧ (0 : Int) ≤ IntKind.wrap IntKind.i64 ((↑(List.length s_612) : Int) - (↑(List.length suffix_613) : Int)) ∧ IntKind.wrap IntKind.i64 ((↑(List.length s_612) : Int) - (↑(List.length suffix_613) : Int)) ≤ (↑(List.length s_612) : Int) then
        some (List.drop (Int.toNat (0 : Int)) (List.take (Int.toNat (IntKind.wrap IntKind.i64 ((↑(List.length s_612) : Int) - (↑(List.length suffix_613) : Int)))) s_612))
      else none
    else
      some (s_612)

def strings_TrimSuffix_res (r : List UInt8) : AV := (fun (r_623 : List UInt8) => AV.str r_623) r

def strings_TrimSuffix_out (r : List UInt8) : List AO := (fun (r_623 : List UInt8) => []) r

noncomputable def strings_TrimSuffix (s_610 : List UInt8) (suffix_611 : List UInt8) : Option (List UInt8) :=
  (stringslite_TrimSuffix (s_610) (suffix_611)).bind fun a_621 =>
    some (a_621)

def relation_Parse_res (r : List UInt8 × List UInt8 × List UInt8 × Int) : AV := (fun (r_640 : List UInt8 × List UInt8 × List UInt8 × Int) => AV.tup [AV.agg [AV.str (Prod.fst r_640), AV.str (Prod.fst (Prod.snd r_640)), AV.str (Prod.fst (Prod.snd (Prod.snd r_640)))], AV.int IntKind.i64 (Prod.snd (Prod.snd (Prod.snd r_640)))]) r

def relation_Parse_out (r : List UInt8 × List UInt8 × List UInt8 × Int) : List AO := (fun (r_640 : List UInt8 × List UInt8 × List UInt8 × Int) => []) r

noncomputable def relation_Parse (s_625 : List UInt8) : Option (List UInt8 × List UInt8 × List UInt8 × Int) :=
  Option.bind (α := List UInt8 × List UInt8 × List UInt8) (
    (strings_Cut (s_625) ([(32 : UInt8), (40 : UInt8)])).bind fun a_626 =>
      bif Prod.snd (Prod.snd a_626) then
        (strings_Cut (Prod.fst (Prod.snd a_626)) ([(32 : UInt8)])).bind fun a_627 =>
          (strings_TrimSuffix (Prod.fst (Prod.snd a_627)) ([(41 : UInt8)])).bind fun a_628 =>
            some (Prod.fst a_626, Prod.fst a_627, a_628)
      else
        some (s_625, [], [])) (fun t_632 =>
    (relation_Right (Prod.fst t_632) (Prod.fst (Prod.snd t_632)) (Prod.snd (Prod.snd t_632))).bind fun a_633 =>
      bif !a_633 then
        some ([], [], [], (2 : Int))
      else
        (relation_Text (Prod.fst t_632) (Prod.fst (Prod.snd t_632)) (Prod.snd (Prod.snd t_632))).bind fun a_634 =>
          bif !Decidable.decide (a_634 = s_625) then
            some ([], [], [], (2 : Int))
          else
            some (Prod.fst t_632, Prod.fst (Prod.snd t_632), Prod.snd (Prod.snd t_632), (0 : Int)))

def cellarerref07_trimmed_res (r : List UInt8) : AV := (fun (r_649 : List UInt8) => AV.str r_649) r

def cellarerref07_trimmed_out (r : List UInt8) : List AO := (fun (r_649 : List UInt8) => []) r

noncomputable def cellarerref07_trimmed (s_643 : List UInt8) (ahead_644 : Bool) : Option (List UInt8) :=
  Option.bind (α := Unit ⊕ Unit) (
    bif ahead_644 then
      bif Decidable.decide ((0 : Int) < (↑(List.length s_643) : Int)) then
        if (0 : Int) ≤ (0 : Int) ∧ (0 : Int) < (↑(List.length s_643) : Int) then
          bif Decidable.decide ((↑(UInt8.toNat (List.getD s_643 (Int.toNat (0 : Int)) (0 : UInt8))) : Int) = (32 : Int)) then
            if (0 : Int) ≤ (1 : Int) ∧ (1 : Int) ≤ (↑(List.length s_643) : Int) ∧ (↑(List.length s_643) : Int) ≤ (↑(List.length s_643) : Int) then
              some (Sum.inl ())
            else none
          else
            some (Sum.inr ())
        else none
      else
        some (Sum.inr ())
    else
      some (Sum.inr ())) (Sum.elim (fun t_645 =>
    some (List.drop (Int.toNat (1 : Int)) (List.take (Int.toNat (↑(List.length s_643) : Int)) s_643))) (fun t_646 =>
    bif !ahead_644 then
      bif Decidable.decide ((0 : Int) < (↑(List.length s_643) : Int)) then
        if (0 : Int) ≤ IntKind.wrap IntKind.i64 ((↑(List.length s_643) : Int) - (1 : Int)) ∧ IntKind.wrap IntKind.i64 ((↑(List.length s_643) : Int) - (1 : Int)) < (↑(List.length s_643) : Int) then
          bif Decidable.decide ((↑(UInt8.toNat (List.getD s_643 (Int.toNat (IntKind.wrap IntKind.i64 ((↑(List.length s_643) : Int) - (1 : Int)))) (0 : UInt8))) : Int) = (32 : Int)) then
            if (0 : Int) ≤ (0 : Int) ∧ (0 : Int) ≤ IntKind.wrap IntKind.i64 ((↑(List.length s_643) : Int) - (1 : Int)) ∧ IntKind.wrap IntKind.i64 ((↑(List.length s_643) : Int) - (1 : Int)) ≤ (↑(List.length s_643) : Int) then
              some (List.drop (Int.toNat (0 : Int)) (List.take (Int.toNat (IntKind.wrap IntKind.i64 ((↑(List.length s_643) : Int) - (1 : Int)))) s_643))
            else none
          else
            some (s_643)
        else none
      else
        some (s_643)
    else
      some (s_643)))

def cellarerref07_Parse_res (r : List UInt8 × List UInt8 × List UInt8 × Bool) : AV := (fun (r_663 : List UInt8 × List UInt8 × List UInt8 × Bool) => AV.tup [AV.agg [AV.str (Prod.fst r_663), AV.str (Prod.fst (Prod.snd r_663)), AV.str (Prod.fst (Prod.snd (Prod.snd r_663)))], AV.bool (Prod.snd (Prod.snd (Prod.snd r_663)))]) r

def cellarerref07_Parse_out (r : List UInt8 × List UInt8 × List UInt8 × Bool) : List AO := (fun (r_663 : List UInt8 × List UInt8 × List UInt8 × Bool) => []) r

noncomputable def cellarerref07_Parse (s_651 : List UInt8) : Option (List UInt8 × List UInt8 × List UInt8 × Bool) :=
  (cellarerref06_Split (s_651) ((32 : Int))).bind fun a_652 =>
    if (0 : Int) ≤ (0 : Int) ∧ (0 : Int) + (↑(0 : Nat) : Int) < (↑(List.length a_652) : Int) then
      if (0 : Nat) < List.length a_652 then
        Option.bind (α := List UInt8 × List UInt8) (
          bif Decidable.decide ((↑(List.length a_652) : Int) - (↑(0 : Nat) : Int) = (3 : Int)) then
            if (0 : Int) ≤ (1 : Int) ∧ (1 : Int) + (↑(0 : Nat) : Int) < (↑(List.length a_652) : Int) then
              if (1 : Nat) < List.length a_652 then
                bif Decidable.decide ((0 : Int) < (↑(List.length (List.getD a_652 (1 : Nat) [])) : Int)) then
                  if (0 : Int) ≤ (2 : Int) ∧ (2 : Int) + (↑(0 : Nat) : Int) < (↑(List.length a_652) : Int) then
                    if (2 : Nat) < List.length a_652 then
                      bif Decidable.decide ((0 : Int) < (↑(List.length (List.getD a_652 (2 : Nat) [])) : Int)) then
                        if (0 : Int) ≤ (1 : Int) ∧ (1 : Int) + (↑(0 : Nat) : Int) < (↑(List.length a_652) : Int) then
                          if (1 : Nat) < List.length a_652 then
                            if (0 : Int) ≤ (1 : Int) ∧ (1 : Int) ≤ (↑(List.length (List.getD a_652 (1 : Nat) [])) : Int) ∧ (↑(List.length (List.getD a_652 (1 : Nat) [])) : Int) ≤ (↑(List.length (List.getD a_652 (1 : Nat) [])) : Int) then
                              if (0 : Int) ≤ (2 : Int) ∧ (2 : Int) + (↑(0 : Nat) : Int) < (↑(List.length a_652) : Int) then
                                if (2 : Nat) < List.length a_652 then
                                  if (0 : Int) ≤ (2 : Int) ∧ (2 : Int) + (↑(0 : Nat) : Int) < (↑(List.length a_652) : Int) then
                                    if (2 : Nat) < List.length a_652 then
                                      if (0 : Int) ≤ (0 : Int) ∧ (0 : Int) ≤ IntKind.wrap IntKind.i64 ((↑(List.length (List.getD a_652 (2 : Nat) [])) : Int) - (1 : Int)) ∧ IntKind.wrap IntKind.i64 ((↑(List.length (List.getD a_652 (2 : Nat) [])) : Int) - (1 : Int)) ≤ (↑(List.length (List.getD a_652 (2 : Nat) [])) : Int) then
                                        some (List.drop (Int.toNat (1 : Int)) (List.take (Int.toNat (↑(List.length (List.getD a_652 (1 : Nat) [])) : Int)) (List.getD a_652 (1 : Nat) [])), List.drop (Int.toNat (0 : Int)) (List.take (Int.toNat (IntKind.wrap IntKind.i64 ((↑(List.length (List.getD a_652 (2 : Nat) [])) : Int) - (1 : Int)))) (List.getD a_652 (2 : Nat) [])))
                                      else none
                                    else none
                                  else none
                                else none
                              else none
                            else none
                          else none
                        else none
                      else
                        some ([], [])
                    else none
                  else none
                else
                  some ([], [])
              else none
            else none
          else
            some ([], [])) (fun t_655 =>
          (cellarerref07_Right (List.getD a_652 (0 : Nat) []) (Prod.fst t_655) (Prod.snd t_655)).bind fun a_656 =>
            bif !a_656 then
              some ([], [], [], Bool.false)
            else
              (cellarerref07_Text (List.getD a_652 (0 : Nat) []) (Prod.fst t_655) (Prod.snd t_655)).bind fun a_657 =>
                bif !Decidable.decide (a_657 = s_651) then
                  some ([], [], [], Bool.false)
                else
                  some (List.getD a_652 (0 : Nat) [], Prod.fst t_655, Prod.snd t_655, Bool.true))
      else none
    else none

def cellarerlaw07_is_res (r : Bool) : AV := (fun (r_669 : Bool) => AV.bool r_669) r

def cellarerlaw07_is_out (r : Bool) : List AO := (fun (r_669 : Bool) => []) r

noncomputable def cellarerlaw07_is (e_666 : Int) (ok_667 : Bool) : Option (Bool) :=
  bif ok_667 then
    some (Decidable.decide (e_666 = (0 : Int)))
  else
    some (Decidable.decide (e_666 = (2 : Int)))

def api_Rel__res (r : List UInt8 × Int) : AV := (fun (r_693 : List UInt8 × Int) => AV.tup [AV.str (Prod.fst r_693), AV.int IntKind.i64 (Prod.snd r_693)]) r

def api_Rel__out (r : List UInt8 × Int) : List AO := (fun (r_693 : List UInt8 × Int) => []) r

noncomputable def api_Rel__b0 (t_680 : List (List UInt8 × List UInt8 × List UInt8)) (t_681 : Int) (s_694 : Int × List (List UInt8)) : Option ((Int × List (List UInt8)) ⊕ (Int ⊕ List (List UInt8))) :=
  bif Decidable.decide (Prod.fst s_694 < t_681) then
    if (0 : Int) ≤ Prod.fst s_694 ∧ Prod.fst s_694 < (↑(List.length t_680) : Int) then
      (relation_right (Prod.fst (List.getD t_680 (Int.toNat (Prod.fst s_694)) ([], [], []))) (Prod.fst (Prod.snd (List.getD t_680 (Int.toNat (Prod.fst s_694)) ([], [], [])))) (Prod.snd (Prod.snd (List.getD t_680 (Int.toNat (Prod.fst s_694)) ([], [], []))))).bind fun a_684 =>
        bif !Decidable.decide (Prod.snd a_684 = (0 : Int)) then
          some (Sum.inr (Sum.inl (Prod.snd a_684)))
        else
          if (List.length (Prod.snd s_694) + List.length ((fun (x : List (Ty.T Ty.str)) => x) [Prod.fst a_684])) * (16 : Nat) ≤ (17592186044416 : Nat) then
            some (Sum.inl (IntKind.wrap IntKind.i64 (Prod.fst s_694 + (1 : Int)), Prod.snd s_694 ++ [Prod.fst a_684]))
          else none
    else none
  else
    some (Sum.inr (Sum.inr (Prod.snd s_694)))

noncomputable def api_Rel_ (l_672 : List (List UInt8 × List UInt8 × List UInt8)) (between_673 : List UInt8) : Option (List UInt8 × Int) :=
  bif Decidable.decide ((64 : Int) < (↑(List.length l_672) : Int)) then
    some ([], (22 : Int))
  else
    (iter (api_Rel__b0 (l_672) ((↑(List.length l_672) : Int))) ((0 : Int), [])).bind (Sum.elim (fun t_686 =>
      some ([], t_686)) (fun t_688 =>
      (strings_Join (List.drop (0 : Nat) t_688) (between_673)).bind fun a_689 =>
        some (a_689, (0 : Int))))

def relation_group_res (r : List UInt8 × Int) : AV := (fun (r_699 : List UInt8 × Int) => AV.tup [AV.str (Prod.fst r_699), AV.int IntKind.i64 (Prod.snd r_699)]) r

def relation_group_out (r : List UInt8 × Int) : List AO := (fun (r_699 : List UInt8 × Int) => []) r

noncomputable def relation_group (l_671 : List (List UInt8 × List UInt8 × List UInt8)) : Option (List UInt8 × Int) :=
  bif Decidable.decide ((↑(List.length l_671) : Int) = (0 : Int)) then
    some ([], (1 : Int))
  else
    (api_Rel_ (l_671) ([(32 : UInt8), (124 : UInt8), (32 : UInt8)])).bind fun a_696 =>
      some (Prod.fst a_696, Prod.snd a_696)

def cellarerref07_Ones_res (r : List (List (List UInt8 × List UInt8 × List UInt8))) : AV := (fun (r_711 : List (List (List UInt8 × List UInt8 × List UInt8))) => AV.view (0 : Nat) (0 : Nat) Option.none) r

def cellarerref07_Ones_out (r : List (List (List UInt8 × List UInt8 × List UInt8))) : List AO := (fun (r_711 : List (List (List UInt8 × List UInt8 × List UInt8))) => [AO.row (Ty.list (Ty.prod Ty.str (Ty.prod Ty.str Ty.str))) r_711]) r

noncomputable def cellarerref07_Ones_b0 (l_704 : List (List UInt8 × List UInt8 × List UInt8)) (s_712 : Int × List (List (List UInt8 × List UInt8 × List UInt8))) : Option ((Int × List (List (List UInt8 × List UInt8 × List UInt8))) ⊕ (List (List (List UInt8 × List UInt8 × List UInt8)))) :=
  bif Decidable.decide (Prod.fst s_712 < (↑(List.length l_704) : Int)) then
    if (0 : Int) ≤ Prod.fst s_712 ∧ Prod.fst s_712 < (↑(List.length l_704) : Int) then
      if (List.length (Prod.snd s_712) + List.length ((fun (x : List (Ty.T (Ty.list (Ty.prod Ty.str (Ty.prod Ty.str Ty.str))))) => x) [[(Prod.fst (List.getD l_704 (Int.toNat (Prod.fst s_712)) ([], [], [])), Prod.fst (Prod.snd (List.getD l_704 (Int.toNat (Prod.fst s_712)) ([], [], []))), Prod.snd (Prod.snd (List.getD l_704 (Int.toNat (Prod.fst s_712)) ([], [], []))))]])) * (24 : Nat) ≤ (17592186044416 : Nat) then
        some (Sum.inl (IntKind.wrap IntKind.i64 (Prod.fst s_712 + (1 : Int)), Prod.snd s_712 ++ [[(Prod.fst (List.getD l_704 (Int.toNat (Prod.fst s_712)) ([], [], [])), Prod.fst (Prod.snd (List.getD l_704 (Int.toNat (Prod.fst s_712)) ([], [], []))), Prod.snd (Prod.snd (List.getD l_704 (Int.toNat (Prod.fst s_712)) ([], [], []))))]]))
      else none
    else none
  else
    some (Sum.inr (Prod.snd s_712))

noncomputable def cellarerref07_Ones (l_701 : List (List UInt8 × List UInt8 × List UInt8)) : Option (List (List (List UInt8 × List UInt8 × List UInt8))) :=
  (iter (cellarerref07_Ones_b0 (l_701)) ((0 : Int), [])).bind (fun t_708 =>
    some (t_708))

def strings_Count_res (r : Int) : AV := (fun (r_746 : Int) => AV.int IntKind.i64 r_746) r

def strings_Count_out (r : Int) : List AO := (fun (r_746 : Int) => []) r

noncomputable def strings_Count_b0 (substr_739 : List UInt8) (s_747 : List UInt8 × Int) : Option ((List UInt8 × Int) ⊕ (Int)) :=
  (strings_Index (Prod.fst s_747) (substr_739)).bind fun a_741 =>
    bif Decidable.decide (a_741 = (-1 : Int)) then
      some (Sum.inr (Prod.snd s_747))
    else
      if (0 : Int) ≤ IntKind.wrap IntKind.i64 (a_741 + (↑(List.length substr_739) : Int)) ∧ IntKind.wrap IntKind.i64 (a_741 + (↑(List.length substr_739) : Int)) ≤ (↑(List.length (Prod.fst s_747)) : Int) ∧ (↑(List.length (Prod.fst s_747)) : Int) ≤ (↑(List.length (Prod.fst s_747)) : Int) then
        some (Sum.inl (List.drop (Int.toNat (IntKind.wrap IntKind.i64 (a_741 + (↑(List.length substr_739) : Int)))) (List.take (Int.toNat (↑(List.length (Prod.fst s_747)) : Int)) (Prod.fst s_747)), IntKind.wrap IntKind.i64 (Prod.snd s_747 + (1 : Int))))
      else none

noncomputable def strings_Count (s_736 : List UInt8) (substr_737 : List UInt8) : Option (Int) :=
  bif Decidable.decide ((↑(List.length substr_737) : Int) = (0 : Int)) then
    none
  else
    bif Decidable.decide ((↑(List.length substr_737) : Int) = (1 : Int)) then
      if (0 : Int) ≤ (0 : Int) ∧ (0 : Int) < (↑(List.length substr_737) : Int) then
        some ((↑(List.count (Nat.toUInt8 (Int.toNat (↑(UInt8.toNat (List.getD substr_737 (Int.toNat (0 : Int)) (0 : UInt8))) : Int))) s_736) : Int))
      else none
    else
      (iter (strings_Count_b0 (substr_737)) (s_736, (0 : Int))).bind (fun t_743 =>
        some (t_743))

def strings_genSplit_res (r : List (List UInt8)) : AV := (fun (r_766 : List (List UInt8)) => AV.view (0 : Nat) (0 : Nat) Option.none) r

def strings_genSplit_out (r : List (List UInt8)) : List AO := (fun (r_766 : List (List UInt8)) => [AO.row Ty.str r_766]) r

noncomputable def strings_genSplit_b0 (sep_753 : List UInt8) (sepSave_754 : Int) (n_755 : Int) (s_767 : List UInt8 × Int × List (List UInt8)) : Option ((List UInt8 × Int × List (List UInt8)) ⊕ (List UInt8 × Int × List (List UInt8))) :=
  bif Decidable.decide (Prod.fst (Prod.snd s_767) < n_755) then
    (strings_Index (Prod.fst s_767) (sep_753)).bind fun a_758 =>
      bif Decidable.decide (a_758 < (0 : Int)) then
        some (Sum.inr (Prod.fst s_767, Prod.fst (Prod.snd s_767), Prod.snd (Prod.snd s_767)))
      else
        if (0 : Int) ≤ (0 : Int) ∧ (0 : Int) ≤ IntKind.wrap IntKind.i64 (a_758 + sepSave_754) ∧ IntKind.wrap IntKind.i64 (a_758 + sepSave_754) ≤ (↑(List.length (Prod.fst s_767)) : Int) then
          if (0 : Int) ≤ Prod.fst (Prod.snd s_767) ∧ Prod.fst (Prod.snd s_767) + (↑(0 : Nat) : Int) < (↑(List.length (Prod.snd (Prod.snd s_767))) : Int) then
            if (0 : Nat) + Int.toNat (Prod.fst (Prod.snd s_767)) < List.length (Prod.snd (Prod.snd s_767)) then
              if (0 : Int) ≤ IntKind.wrap IntKind.i64 (a_758 + (↑(List.length sep_753) : Int)) ∧ IntKind.wrap IntKind.i64 (a_758 + (↑(List.length sep_753) : Int)) ≤ (↑(List.length (Prod.fst s_767)) : Int) ∧ (↑(List.length (Prod.fst s_767)) : Int) ≤ (↑(List.length (Prod.fst s_767)) : Int) then
                some (Sum.inl (List.drop (Int.toNat (IntKind.wrap IntKind.i64 (a_758 + (↑(List.length sep_753) : Int)))) (List.take (Int.toNat (↑(List.length (Prod.fst s_767)) : Int)) (Prod.fst s_767)), IntKind.wrap IntKind.i64 (Prod.fst (Prod.snd s_767) + (1 : Int)), List.set (Prod.snd (Prod.snd s_767)) ((0 : Nat) + Int.toNat (Prod.fst (Prod.snd s_767))) (List.drop (Int.toNat (0 : Int)) (List.take (Int.toNat (IntKind.wrap IntKind.i64 (a_758 + sepSave_754))) (Prod.fst s_767)))))
              else none
            else none
          else none
        else none
  else
    some (Sum.inr (Prod.fst s_767, Prod.fst (Prod.snd s_767), Prod.snd (Prod.snd s_767)))

noncomputable def strings_genSplit (s_730 : List UInt8) (sep_731 : List UInt8) (sepSave_732 : Int) (n_733 : Int) : Option (List (List UInt8)) :=
  bif Decidable.decide (n_733 = (0 : Int)) then
    some ([])
  else
    bif Decidable.decide (sep_731 = []) then
      none
    else
      Option.bind (α := Int) (
        bif Decidable.decide (n_733 < (0 : Int)) then
          (strings_Count (s_730) (sep_731)).bind fun a_749 =>
            some (IntKind.wrap IntKind.i64 (a_749 + (1 : Int)))
        else
          some (n_733)) (fun t_751 =>
        if ((0 : Int) ≤ if IntKind.wrap IntKind.i64 ((↑(List.length s_730) : Int) + (1 : Int)) < t_751 then IntKind.wrap IntKind.i64 ((↑(List.length s_730) : Int) + (1 : Int)) else t_751) ∧ ((if IntKind.wrap IntKind.i64 ((↑(List.length s_730) : Int) + (1 : Int)) < t_751 then IntKind.wrap IntKind.i64 ((↑(List.length s_730) : Int) + (1 : Int)) else t_751) ≤ if IntKind.wrap IntKind.i64 ((↑(List.length s_730) : Int) + (1 : Int)) < t_751 then IntKind.wrap IntKind.i64 ((↑(List.length s_730) : Int) + (1 : Int)) else t_751) ∧ (if IntKind.wrap IntKind.i64 ((↑(List.length s_730) : Int) + (1 : Int)) < t_751 then IntKind.wrap IntKind.i64 ((↑(List.length s_730) : Int) + (1 : Int)) else t_751) ≤ (140737488355328 : Int) ∧ ((↑(16 : Nat) : Int) * if IntKind.wrap IntKind.i64 ((↑(List.length s_730) : Int) + (1 : Int)) < t_751 then IntKind.wrap IntKind.i64 ((↑(List.length s_730) : Int) + (1 : Int)) else t_751) ≤ (140737488355328 : Int) then
          (iter (strings_genSplit_b0 (sep_731) (sepSave_732) (IntKind.wrap IntKind.i64 ((if IntKind.wrap IntKind.i64 ((↑(List.length s_730) : Int) + (1 : Int)) < t_751 then IntKind.wrap IntKind.i64 ((↑(List.length s_730) : Int) + (1 : Int)) else t_751) - (1 : Int)))) (s_730, (0 : Int), List.replicate (Int.toNat (if IntKind.wrap IntKind.i64 ((↑(List.length s_730) : Int) + (1 : Int)) < t_751 then IntKind.wrap IntKind.i64 ((↑(List.length s_730) : Int) + (1 : Int)) else t_751)) [])).bind (fun t_762 =>
            if (0 : Int) ≤ Prod.fst (Prod.snd t_762) ∧ Prod.fst (Prod.snd t_762) + (↑(0 : Nat) : Int) < (↑(List.length (Prod.snd (Prod.snd t_762))) : Int) then
              if (0 : Nat) + Int.toNat (Prod.fst (Prod.snd t_762)) < List.length (Prod.snd (Prod.snd t_762)) then
                if (0 : Int) ≤ (0 : Int) ∧ (0 : Int) ≤ IntKind.wrap IntKind.i64 (Prod.fst (Prod.snd t_762) + (1 : Int)) ∧ (↑(0 : Nat) : Int) + IntKind.wrap IntKind.i64 (Prod.fst (Prod.snd t_762) + (1 : Int)) ≤ (↑(List.length (List.set (Prod.snd (Prod.snd t_762)) ((0 : Nat) + Int.toNat (Prod.fst (Prod.snd t_762))) (Prod.fst t_762))) : Int) then
                  some (List.take ((0 : Nat) + Int.toNat (IntKind.wrap IntKind.i64 (Prod.fst (Prod.snd t_762) + (1 : Int)))) (List.set (Prod.snd (Prod.snd t_762)) ((0 : Nat) + Int.toNat (Prod.fst (Prod.snd t_762))) (Prod.fst t_762)))
                else none
              else none
            else none)
        else none)

def strings_Split_res (r : List (List UInt8)) : AV := (fun (r_771 : List (List UInt8)) => AV.view (0 : Nat) (0 : Nat) Option.none) r

def strings_Split_out (r : List (List UInt8)) : List AO := (fun (r_771 : List (List UInt8)) => [AO.row Ty.str r_771]) r

noncomputable def strings_Split (s_718 : List UInt8) (sep_719 : List UInt8) : Option (List (List UInt8)) :=
  (strings_genSplit (s_718) (sep_719) ((0 : Int)) ((-1 : Int))).bind fun a_769 =>
    some (a_769)

def api_Rel__47_res (r : Int × List (List UInt8 × List UInt8 × List UInt8)) : AV := (fun (r_794 : Int × List (List UInt8 × List UInt8 × List UInt8)) => AV.tup [AV.view (0 : Nat) (0 : Nat) Option.none, AV.int IntKind.i64 (Prod.fst r_794)]) r

def api_Rel__47_out (r : Int × List (List UInt8 × List UInt8 × List UInt8)) : List AO := (fun (r_794 : Int × List (List UInt8 × List UInt8 × List UInt8)) => [AO.row (Ty.prod Ty.str (Ty.prod Ty.str Ty.str)) (Prod.snd r_794)]) r

noncomputable def api_Rel__47_b0 (t_780 : Int) (o1_783 : List (List UInt8)) (s_795 : Int × List (List UInt8 × List UInt8 × List UInt8)) : Option ((Int × List (List UInt8 × List UInt8 × List UInt8)) ⊕ (Unit ⊕ List (List UInt8 × List UInt8 × List UInt8))) :=
  bif Decidable.decide (Prod.fst s_795 < t_780) then
    if (0 : Int) ≤ Prod.fst s_795 ∧ Prod.fst s_795 + (↑(0 : Nat) : Int) < (↑(List.length o1_783) : Int) then
      if (0 : Nat) + Int.toNat (Prod.fst s_795) < List.length o1_783 then
        (relation_Parse (List.getD o1_783 ((0 : Nat) + Int.toNat (Prod.fst s_795)) [])).bind fun a_784 =>
          Option.bind (α := Unit ⊕ Unit) (
            bif !Decidable.decide (Prod.snd (Prod.snd (Prod.snd a_784)) = (0 : Int)) then
              some (Sum.inl ())
            else
              bif Decidable.decide ((↑(List.length (Prod.snd s_795)) : Int) - (↑(0 : Nat) : Int) = (64 : Int)) then
                some (Sum.inl ())
              else
                some (Sum.inr ())) (Sum.elim (fun t_785 =>
            some (Sum.inr (Sum.inl ()))) (fun t_786 =>
            if (List.length (Prod.snd s_795) + List.length ((fun (x : List (Ty.T (Ty.prod Ty.str (Ty.prod Ty.str Ty.str)))) => x) [(Prod.fst a_784, Prod.fst (Prod.snd a_784), Prod.fst (Prod.snd (Prod.snd a_784)))])) * (48 : Nat) ≤ (17592186044416 : Nat) then
              some (Sum.inl (IntKind.wrap IntKind.i64 (Prod.fst s_795 + (1 : Int)), Prod.snd s_795 ++ [(Prod.fst a_784, Prod.fst (Prod.snd a_784), Prod.fst (Prod.snd (Prod.snd a_784)))]))
            else none))
      else none
    else none
  else
    some (Sum.inr (Sum.inr (Prod.snd s_795)))

noncomputable def api_Rel__47 (s_716 : List UInt8) (between_717 : List UInt8) : Option (Int × List (List UInt8 × List UInt8 × List UInt8)) :=
  bif Decidable.decide (s_716 = []) then
    some ((0 : Int), [])
  else
    (strings_Split (s_716) (between_717)).bind fun a_772 =>
      (iter (api_Rel__47_b0 ((↑(List.length a_772) : Int) - (↑(0 : Nat) : Int)) (a_772)) ((0 : Int), [])).bind (Sum.elim (fun t_788 =>
        some ((2 : Int), [])) (fun t_790 =>
        some ((0 : Int), t_790)))

def relation_some_res (r : Int × List (List UInt8 × List UInt8 × List UInt8)) : AV := (fun (r_800 : Int × List (List UInt8 × List UInt8 × List UInt8)) => AV.tup [AV.view (0 : Nat) (0 : Nat) Option.none, AV.int IntKind.i64 (Prod.fst r_800)]) r

def relation_some_out (r : Int × List (List UInt8 × List UInt8 × List UInt8)) : List AO := (fun (r_800 : Int × List (List UInt8 × List UInt8 × List UInt8)) => [AO.row (Ty.prod Ty.str (Ty.prod Ty.str Ty.str)) (Prod.snd r_800)]) r

noncomputable def relation_some (s_715 : List UInt8) : Option (Int × List (List UInt8 × List UInt8 × List UInt8)) :=
  bif Decidable.decide (s_715 = []) then
    some ((2 : Int), [])
  else
    (api_Rel__47 (s_715) ([(32 : UInt8), (124 : UInt8), (32 : UInt8)])).bind fun a_797 =>
      some (Prod.fst a_797, Prod.snd a_797)

def api_Rel__38_res (r : List UInt8 × Int) : AV := (fun (r_830 : List UInt8 × Int) => AV.tup [AV.str (Prod.fst r_830), AV.int IntKind.i64 (Prod.snd r_830)]) r

def api_Rel__38_out (r : List UInt8 × Int) : List AO := (fun (r_830 : List UInt8 × Int) => []) r

noncomputable def api_Rel__38_b0 (t_817 : List (List (List UInt8 × List UInt8 × List UInt8))) (t_818 : Int) (s_831 : Int × List (List UInt8)) : Option ((Int × List (List UInt8)) ⊕ (Int ⊕ List (List UInt8))) :=
  bif Decidable.decide (Prod.fst s_831 < t_818) then
    if (0 : Int) ≤ Prod.fst s_831 ∧ Prod.fst s_831 < (↑(List.length t_817) : Int) then
      (relation_group (List.getD t_817 (Int.toNat (Prod.fst s_831)) [])).bind fun a_821 =>
        bif !Decidable.decide (Prod.snd a_821 = (0 : Int)) then
          some (Sum.inr (Sum.inl (Prod.snd a_821)))
        else
          if (List.length (Prod.snd s_831) + List.length ((fun (x : List (Ty.T Ty.str)) => x) [Prod.fst a_821])) * (16 : Nat) ≤ (17592186044416 : Nat) then
            some (Sum.inl (IntKind.wrap IntKind.i64 (Prod.fst s_831 + (1 : Int)), Prod.snd s_831 ++ [Prod.fst a_821]))
          else none
    else none
  else
    some (Sum.inr (Sum.inr (Prod.snd s_831)))

noncomputable def api_Rel__38 (l_809 : List (List (List UInt8 × List UInt8 × List UInt8))) (between_810 : List UInt8) : Option (List UInt8 × Int) :=
  bif Decidable.decide ((64 : Int) < (↑(List.length l_809) : Int)) then
    some ([], (22 : Int))
  else
    (iter (api_Rel__38_b0 (l_809) ((↑(List.length l_809) : Int))) ((0 : Int), [])).bind (Sum.elim (fun t_823 =>
      some ([], t_823)) (fun t_825 =>
      (strings_Join (List.drop (0 : Nat) t_825) (between_810)).bind fun a_826 =>
        some (a_826, (0 : Int))))

def relation_All_res (r : List UInt8 × Int) : AV := (fun (r_837 : List UInt8 × Int) => AV.tup [AV.str (Prod.fst r_837), AV.int IntKind.i64 (Prod.snd r_837)]) r

def relation_All_out (r : List UInt8 × Int) : List AO := (fun (r_837 : List UInt8 × Int) => []) r

noncomputable def relation_All_b0 (t_804 : List (List (List UInt8 × List UInt8 × List UInt8))) (t_805 : Int) (s_838 : Int) : Option ((Int) ⊕ (Unit ⊕ Unit)) :=
  bif Decidable.decide (s_838 < t_805) then
    if (0 : Int) ≤ s_838 ∧ s_838 < (↑(List.length t_804) : Int) then
      bif Decidable.decide ((64 : Int) < (↑(List.length (List.getD t_804 (Int.toNat s_838) [])) : Int)) then
        some (Sum.inr (Sum.inl ()))
      else
        some (Sum.inl (IntKind.wrap IntKind.i64 (s_838 + (1 : Int))))
    else none
  else
    some (Sum.inr (Sum.inr ()))

noncomputable def relation_All (l_802 : List (List (List UInt8 × List UInt8 × List UInt8))) : Option (List UInt8 × Int) :=
  (iter (relation_All_b0 (l_802) ((↑(List.length l_802) : Int))) ((0 : Int))).bind (Sum.elim (fun t_807 =>
    some ([], (22 : Int))) (fun t_808 =>
    (api_Rel__38 (l_802) ([(44 : UInt8), (32 : UInt8)])).bind fun a_833 =>
      some (Prod.fst a_833, Prod.snd a_833)))

def cellarerref07_All_res (r : List UInt8 × Int) : AV := (fun (r_893 : List UInt8 × Int) => AV.tup [AV.str (Prod.fst r_893), AV.int IntKind.i64 (Prod.snd r_893)]) r

def cellarerref07_All_out (r : List UInt8 × Int) : List AO := (fun (r_893 : List UInt8 × Int) => []) r

noncomputable def cellarerref07_All_b0 (l_842 : List (List (List UInt8 × List UInt8 × List UInt8))) (s_894 : Int) : Option ((Int) ⊕ (Unit ⊕ Unit)) :=
  bif Decidable.decide (s_894 < (↑(List.length l_842) : Int)) then
    if (0 : Int) ≤ s_894 ∧ s_894 < (↑(List.length l_842) : Int) then
      bif Decidable.decide ((64 : Int) < (↑(List.length (List.getD l_842 (Int.toNat s_894) [])) : Int)) then
        some (Sum.inr (Sum.inl ()))
      else
        some (Sum.inl (IntKind.wrap IntKind.i64 (s_894 + (1 : Int))))
    else none
  else
    some (Sum.inr (Sum.inr ()))

noncomputable def cellarerref07_All_b1 (l_873 : List (List (List UInt8 × List UInt8 × List UInt8))) (i_874 : Int) (s_896 : Int × List (List UInt8)) : Option ((Int × List (List UInt8)) ⊕ (Unit ⊕ List (List UInt8))) :=
  if (0 : Int) ≤ i_874 ∧ i_874 < (↑(List.length l_873) : Int) then
    bif Decidable.decide (Prod.fst s_896 < (↑(List.length (List.getD l_873 (Int.toNat i_874) [])) : Int)) then
      if (0 : Int) ≤ i_874 ∧ i_874 < (↑(List.length l_873) : Int) then
        if (0 : Int) ≤ Prod.fst s_896 ∧ Prod.fst s_896 < (↑(List.length (List.getD l_873 (Int.toNat i_874) [])) : Int) then
          (cellarerref07_Right (Prod.fst (List.getD (List.getD l_873 (Int.toNat i_874) []) (Int.toNat (Prod.fst s_896)) ([], [], []))) (Prod.fst (Prod.snd (List.getD (List.getD l_873 (Int.toNat i_874) []) (Int.toNat (Prod.fst s_896)) ([], [], [])))) (Prod.snd (Prod.snd (List.getD (List.getD l_873 (Int.toNat i_874) []) (Int.toNat (Prod.fst s_896)) ([], [], []))))).bind fun a_878 =>
            bif !a_878 then
              some (Sum.inr (Sum.inl ()))
            else
              if (0 : Int) ≤ i_874 ∧ i_874 < (↑(List.length l_873) : Int) then
                if (0 : Int) ≤ Prod.fst s_896 ∧ Prod.fst s_896 < (↑(List.length (List.getD l_873 (Int.toNat i_874) [])) : Int) then
                  (cellarerref07_Text (Prod.fst (List.getD (List.getD l_873 (Int.toNat i_874) []) (Int.toNat (Prod.fst s_896)) ([], [], []))) (Prod.fst (Prod.snd (List.getD (List.getD l_873 (Int.toNat i_874) []) (Int.toNat (Prod.fst s_896)) ([], [], [])))) (Prod.snd (Prod.snd (List.getD (List.getD l_873 (Int.toNat i_874) []) (Int.toNat (Prod.fst s_896)) ([], [], []))))).bind fun a_879 =>
                    if (List.length (Prod.snd s_896) + List.length ((fun (x : List (Ty.T Ty.str)) => x) [a_879])) * (16 : Nat) ≤ (17592186044416 : Nat) then
                      some (Sum.inl (IntKind.wrap IntKind.i64 (Prod.fst s_896 + (1 : Int)), Prod.snd s_896 ++ [a_879]))
                    else none
                else none
              else none
        else none
      else none
    else
      some (Sum.inr (Sum.inr (Prod.snd s_896)))
  else none

noncomputable def cellarerref07_All_b2 (l_864 : List (List (List UInt8 × List UInt8 × List UInt8))) (s_895 : Int × List (List UInt8)) : Option ((Int × List (List UInt8)) ⊕ (Unit ⊕ List (List UInt8))) :=
  bif Decidable.decide (Prod.fst s_895 < (↑(List.length l_864) : Int)) then
    (iter (cellarerref07_All_b1 (l_864) (Prod.fst s_895)) ((0 : Int), [])).bind (Sum.elim (fun t_880 =>
      some (Sum.inr (Sum.inl ()))) (fun t_882 =>
      bif Decidable.decide ((↑(List.length t_882) : Int) - (↑(0 : Nat) : Int) = (0 : Int)) then
        some (Sum.inr (Sum.inl ()))
      else
        (cellarerref06_Join (List.drop (0 : Nat) t_882) ([(32 : UInt8), (124 : UInt8), (32 : UInt8)])).bind fun a_883 =>
          if (List.length (Prod.snd s_895) + List.length ((fun (x : List (Ty.T Ty.str)) => x) [a_883])) * (16 : Nat) ≤ (17592186044416 : Nat) then
            some (Sum.inl (IntKind.wrap IntKind.i64 (Prod.fst s_895 + (1 : Int)), Prod.snd s_895 ++ [a_883]))
          else none))
  else
    some (Sum.inr (Sum.inr (Prod.snd s_895)))

noncomputable def cellarerref07_All (l_841 : List (List (List UInt8 × List UInt8 × List UInt8))) : Option (List UInt8 × Int) :=
  (iter (cellarerref07_All_b0 (l_841)) ((0 : Int))).bind (Sum.elim (fun t_844 =>
    some ([], (22 : Int))) (fun t_845 =>
    bif Decidable.decide ((64 : Int) < (↑(List.length l_841) : Int)) then
      some ([], (22 : Int))
    else
      (iter (cellarerref07_All_b2 (l_841)) ((0 : Int), [])).bind (Sum.elim (fun t_885 =>
        some ([], (1 : Int))) (fun t_887 =>
        (cellarerref06_Join (List.drop (0 : Nat) t_887) ([(44 : UInt8), (32 : UInt8)])).bind fun a_888 =>
          some (a_888, (0 : Int))))))

def api_Rel__41_res (r : Int × List (List (List UInt8 × List UInt8 × List UInt8))) : AV := (fun (r_926 : Int × List (List (List UInt8 × List UInt8 × List UInt8))) => AV.tup [AV.view (0 : Nat) (0 : Nat) Option.none, AV.int IntKind.i64 (Prod.fst r_926)]) r

def api_Rel__41_out (r : Int × List (List (List UInt8 × List UInt8 × List UInt8))) : List AO := (fun (r_926 : Int × List (List (List UInt8 × List UInt8 × List UInt8))) => [AO.row (Ty.list (Ty.prod Ty.str (Ty.prod Ty.str Ty.str))) (Prod.snd r_926)]) r

noncomputable def api_Rel__41_b0 (t_912 : Int) (o1_915 : List (List UInt8)) (s_927 : Int × List (List (List UInt8 × List UInt8 × List UInt8))) : Option ((Int × List (List (List UInt8 × List UInt8 × List UInt8))) ⊕ (Unit ⊕ List (List (List UInt8 × List UInt8 × List UInt8)))) :=
  bif Decidable.decide (Prod.fst s_927 < t_912) then
    if (0 : Int) ≤ Prod.fst s_927 ∧ Prod.fst s_927 + (↑(0 : Nat) : Int) < (↑(List.length o1_915) : Int) then
      if (0 : Nat) + Int.toNat (Prod.fst s_927) < List.length o1_915 then
        (relation_some (List.getD o1_915 ((0 : Nat) + Int.toNat (Prod.fst s_927)) [])).bind fun a_916 =>
          Option.bind (α := Unit ⊕ Unit) (
            bif !Decidable.decide (Prod.fst a_916 = (0 : Int)) then
              some (Sum.inl ())
            else
              bif Decidable.decide ((↑(List.length (Prod.snd s_927)) : Int) - (↑(0 : Nat) : Int) = (64 : Int)) then
                some (Sum.inl ())
              else
                some (Sum.inr ())) (Sum.elim (fun t_917 =>
            some (Sum.inr (Sum.inl ()))) (fun t_918 =>
            if (List.length (Prod.snd s_927) + List.length (List.drop (0 : Nat) [List.drop (0 : Nat) (Prod.snd a_916)])) * (24 : Nat) ≤ (17592186044416 : Nat) then
              some (Sum.inl (IntKind.wrap IntKind.i64 (Prod.fst s_927 + (1 : Int)), Prod.snd s_927 ++ List.drop (0 : Nat) [List.drop (0 : Nat) (Prod.snd a_916)]))
            else none))
      else none
    else none
  else
    some (Sum.inr (Sum.inr (Prod.snd s_927)))

noncomputable def api_Rel__41 (s_902 : List UInt8) (between_903 : List UInt8) : Option (Int × List (List (List UInt8 × List UInt8 × List UInt8))) :=
  bif Decidable.decide (s_902 = []) then
    some ((0 : Int), [])
  else
    (strings_Split (s_902) (between_903)).bind fun a_904 =>
      (iter (api_Rel__41_b0 ((↑(List.length a_904) : Int) - (↑(0 : Nat) : Int)) (a_904)) ((0 : Int), [])).bind (Sum.elim (fun t_920 =>
        some ((2 : Int), [])) (fun t_922 =>
        some ((0 : Int), t_922)))

def relation_ParseAll_res (r : Int × List (List (List UInt8 × List UInt8 × List UInt8))) : AV := (fun (r_932 : Int × List (List (List UInt8 × List UInt8 × List UInt8))) => AV.tup [AV.view (0 : Nat) (0 : Nat) Option.none, AV.int IntKind.i64 (Prod.fst r_932)]) r

def relation_ParseAll_out (r : Int × List (List (List UInt8 × List UInt8 × List UInt8))) : List AO := (fun (r_932 : Int × List (List (List UInt8 × List UInt8 × List UInt8))) => [AO.row (Ty.list (Ty.prod Ty.str (Ty.prod Ty.str Ty.str))) (Prod.snd r_932)]) r

noncomputable def relation_ParseAll (s_901 : List UInt8) : Option (Int × List (List (List UInt8 × List UInt8 × List UInt8))) :=
  (api_Rel__41 (s_901) ([(44 : UInt8), (32 : UInt8)])).bind fun a_929 =>
    some (Prod.fst a_929, Prod.snd a_929)

def cellarerref07_ParseAll_res (r : Bool × List (List (List UInt8 × List UInt8 × List UInt8))) : AV := (fun (r_998 : Bool × List (List (List UInt8 × List UInt8 × List UInt8))) => AV.tup [AV.view (0 : Nat) (0 : Nat) Option.none, AV.bool (Prod.fst r_998)]) r

def cellarerref07_ParseAll_out (r : Bool × List (List (List UInt8 × List UInt8 × List UInt8))) : List AO := (fun (r_998 : Bool × List (List (List UInt8 × List UInt8 × List UInt8))) => [AO.row (Ty.list (Ty.prod Ty.str (Ty.prod Ty.str Ty.str))) (Prod.snd r_998)]) r

noncomputable def cellarerref07_ParseAll_b0 (o3_983 : List (List UInt8)) (s_1000 : Int × List (List UInt8 × List UInt8 × List UInt8)) : Option ((Int × List (List UInt8 × List UInt8 × List UInt8)) ⊕ (Unit ⊕ List (List UInt8 × List UInt8 × List UInt8))) :=
  bif Decidable.decide (Prod.fst s_1000 < (↑(List.length o3_983) : Int) - (↑(0 : Nat) : Int)) then
    if (0 : Int) ≤ Prod.fst s_1000 ∧ Prod.fst s_1000 + (↑(0 : Nat) : Int) < (↑(List.length o3_983) : Int) then
      if (0 : Nat) + Int.toNat (Prod.fst s_1000) < List.length o3_983 then
        (cellarerref07_trimmed (List.getD o3_983 ((0 : Nat) + Int.toNat (Prod.fst s_1000)) []) (Bool.true)).bind fun a_984 =>
          (cellarerref07_trimmed (a_984) (Bool.false)).bind fun a_985 =>
            (cellarerref07_Parse (a_985)).bind fun a_986 =>
              bif !Prod.snd (Prod.snd (Prod.snd a_986)) then
                some (Sum.inr (Sum.inl ()))
              else
                if (List.length (Prod.snd s_1000) + List.length ((fun (x : List (Ty.T (Ty.prod Ty.str (Ty.prod Ty.str Ty.str)))) => x) [(Prod.fst a_986, Prod.fst (Prod.snd a_986), Prod.fst (Prod.snd (Prod.snd a_986)))])) * (48 : Nat) ≤ (17592186044416 : Nat) then
                  some (Sum.inl (IntKind.wrap IntKind.i64 (Prod.fst s_1000 + (1 : Int)), Prod.snd s_1000 ++ [(Prod.fst a_986, Prod.fst (Prod.snd a_986), Prod.fst (Prod.snd (Prod.snd a_986)))]))
                else none
      else none
    else none
  else
    some (Sum.inr (Sum.inr (Prod.snd s_1000)))

noncomputable def cellarerref07_ParseAll_b1 (o1_965 : List (List UInt8)) (s_999 : Int × List (List (List UInt8 × List UInt8 × List UInt8))) : Option ((Int × List (List (List UInt8 × List UInt8 × List UInt8))) ⊕ (Unit ⊕ List (List (List UInt8 × List UInt8 × List UInt8)))) :=
  bif Decidable.decide (Prod.fst s_999 < (↑(List.length o1_965) : Int) - (↑(0 : Nat) : Int)) then
    if (0 : Int) ≤ Prod.fst s_999 ∧ Prod.fst s_999 + (↑(0 : Nat) : Int) < (↑(List.length o1_965) : Int) then
      if (0 : Nat) + Int.toNat (Prod.fst s_999) < List.length o1_965 then
        (cellarerref07_trimmed (List.getD o1_965 ((0 : Nat) + Int.toNat (Prod.fst s_999)) []) (Bool.true)).bind fun a_966 =>
          (cellarerref06_Split (a_966) ((124 : Int))).bind fun a_967 =>
            (iter (cellarerref07_ParseAll_b0 (a_967)) ((0 : Int), [])).bind (Sum.elim (fun t_987 =>
              some (Sum.inr (Sum.inl ()))) (fun t_989 =>
              if (List.length (Prod.snd s_999) + List.length (List.drop (0 : Nat) [List.drop (0 : Nat) t_989])) * (24 : Nat) ≤ (17592186044416 : Nat) then
                some (Sum.inl (IntKind.wrap IntKind.i64 (Prod.fst s_999 + (1 : Int)), Prod.snd s_999 ++ List.drop (0 : Nat) [List.drop (0 : Nat) t_989]))
              else none))
      else none
    else none
  else
    some (Sum.inr (Sum.inr (Prod.snd s_999)))

noncomputable def cellarerref07_ParseAll (s_934 : List UInt8) : Option (Bool × List (List (List UInt8 × List UInt8 × List UInt8))) :=
  bif Decidable.decide (s_934 = []) then
    some (Bool.true, [])
  else
    (cellarerref06_Split (s_934) ((44 : Int))).bind fun a_935 =>
      (iter (cellarerref07_ParseAll_b1 (a_935)) ((0 : Int), [])).bind (Sum.elim (fun t_991 =>
        some (Bool.false, [])) (fun t_993 =>
        (cellarerref07_All (List.drop (0 : Nat) t_993)).bind fun a_994 =>
          bif !Decidable.decide (Prod.snd a_994 = (0 : Int)) then
            some (Bool.false, [])
          else
            bif !Decidable.decide (Prod.fst a_994 = s_934) then
              some (Bool.false, [])
            else
              some (Bool.true, t_993)))

def relation_ParseList_res (r : Int × List (List UInt8 × List UInt8 × List UInt8)) : AV := (fun (r_1008 : Int × List (List UInt8 × List UInt8 × List UInt8)) => AV.tup [AV.view (0 : Nat) (0 : Nat) Option.none, AV.int IntKind.i64 (Prod.fst r_1008)]) r

def relation_ParseList_out (r : Int × List (List UInt8 × List UInt8 × List UInt8)) : List AO := (fun (r_1008 : Int × List (List UInt8 × List UInt8 × List UInt8)) => [AO.row (Ty.prod Ty.str (Ty.prod Ty.str Ty.str)) (Prod.snd r_1008)]) r

noncomputable def relation_ParseList (s_1004 : List UInt8) : Option (Int × List (List UInt8 × List UInt8 × List UInt8)) :=
  (api_Rel__47 (s_1004) ([(44 : UInt8), (32 : UInt8)])).bind fun a_1005 =>
    some (Prod.fst a_1005, Prod.snd a_1005)

def cellarerref07_ParseList_res (r : Bool × List (List UInt8 × List UInt8 × List UInt8)) : AV := (fun (r_1025 : Bool × List (List UInt8 × List UInt8 × List UInt8)) => AV.tup [AV.view (0 : Nat) (0 : Nat) Option.none, AV.bool (Prod.fst r_1025)]) r

def cellarerref07_ParseList_out (r : Bool × List (List UInt8 × List UInt8 × List UInt8)) : List AO := (fun (r_1025 : Bool × List (List UInt8 × List UInt8 × List UInt8)) => [AO.row (Ty.prod Ty.str (Ty.prod Ty.str Ty.str)) (Prod.snd r_1025)]) r

noncomputable def cellarerref07_ParseList_b0 (o1_1018 : List (List (List UInt8 × List UInt8 × List UInt8))) (s_1026 : Int × List (List UInt8 × List UInt8 × List UInt8)) : Option ((Int × List (List UInt8 × List UInt8 × List UInt8)) ⊕ (Unit ⊕ List (List UInt8 × List UInt8 × List UInt8))) :=
  bif Decidable.decide (Prod.fst s_1026 < (↑(List.length o1_1018) : Int) - (↑(0 : Nat) : Int)) then
    if (0 : Int) ≤ Prod.fst s_1026 ∧ Prod.fst s_1026 + (↑(0 : Nat) : Int) < (↑(List.length o1_1018) : Int) then
      if (0 : Nat) + Int.toNat (Prod.fst s_1026) < List.length o1_1018 then
        bif !Decidable.decide ((↑(List.length (List.getD o1_1018 ((0 : Nat) + Int.toNat (Prod.fst s_1026)) [])) : Int) = (1 : Int)) then
          some (Sum.inr (Sum.inl ()))
        else
          if (0 : Int) ≤ Prod.fst s_1026 ∧ Prod.fst s_1026 + (↑(0 : Nat) : Int) < (↑(List.length o1_1018) : Int) then
            if (0 : Nat) + Int.toNat (Prod.fst s_1026) < List.length o1_1018 then
              if (0 : Int) ≤ (0 : Int) ∧ (0 : Int) < (↑(List.length (List.getD o1_1018 ((0 : Nat) + Int.toNat (Prod.fst s_1026)) [])) : Int) then
                if (List.length (Prod.snd s_1026) + List.length ((fun (x : List (Ty.T (Ty.prod Ty.str (Ty.prod Ty.str Ty.str)))) => x) [(Prod.fst (List.getD (List.getD o1_1018 ((0 : Nat) + Int.toNat (Prod.fst s_1026)) []) (Int.toNat (0 : Int)) ([], [], [])), Prod.fst (Prod.snd (List.getD (List.getD o1_1018 ((0 : Nat) + Int.toNat (Prod.fst s_1026)) []) (Int.toNat (0 : Int)) ([], [], []))), Prod.snd (Prod.snd (List.getD (List.getD o1_1018 ((0 : Nat) + Int.toNat (Prod.fst s_1026)) []) (Int.toNat (0 : Int)) ([], [], []))))])) * (48 : Nat) ≤ (17592186044416 : Nat) then
                  some (Sum.inl (IntKind.wrap IntKind.i64 (Prod.fst s_1026 + (1 : Int)), Prod.snd s_1026 ++ [(Prod.fst (List.getD (List.getD o1_1018 ((0 : Nat) + Int.toNat (Prod.fst s_1026)) []) (Int.toNat (0 : Int)) ([], [], [])), Prod.fst (Prod.snd (List.getD (List.getD o1_1018 ((0 : Nat) + Int.toNat (Prod.fst s_1026)) []) (Int.toNat (0 : Int)) ([], [], []))), Prod.snd (Prod.snd (List.getD (List.getD o1_1018 ((0 : Nat) + Int.toNat (Prod.fst s_1026)) []) (Int.toNat (0 : Int)) ([], [], []))))]))
                else none
              else none
            else none
          else none
      else none
    else none
  else
    some (Sum.inr (Sum.inr (Prod.snd s_1026)))

noncomputable def cellarerref07_ParseList (s_1010 : List UInt8) : Option (Bool × List (List UInt8 × List UInt8 × List UInt8)) :=
  (cellarerref07_ParseAll (s_1010)).bind fun a_1011 =>
    (iter (cellarerref07_ParseList_b0 (Prod.snd a_1011)) ((0 : Int), [])).bind (Sum.elim (fun t_1019 =>
      some (Bool.false, [])) (fun t_1021 =>
      some (Prod.fst a_1011, t_1021)))

def relation_List_res (r : List UInt8 × Int) : AV := (fun (r_1033 : List UInt8 × Int) => AV.tup [AV.str (Prod.fst r_1033), AV.int IntKind.i64 (Prod.snd r_1033)]) r

def relation_List_out (r : List UInt8 × Int) : List AO := (fun (r_1033 : List UInt8 × Int) => []) r

noncomputable def relation_List (l_1029 : List (List UInt8 × List UInt8 × List UInt8)) : Option (List UInt8 × Int) :=
  (api_Rel_ (l_1029) ([(44 : UInt8), (32 : UInt8)])).bind fun a_1030 =>
    some (Prod.fst a_1030, Prod.snd a_1030)

def cellarerref07_List_res (r : List UInt8 × Int) : AV := (fun (r_1040 : List UInt8 × Int) => AV.tup [AV.str (Prod.fst r_1040), AV.int IntKind.i64 (Prod.snd r_1040)]) r

def cellarerref07_List_out (r : List UInt8 × Int) : List AO := (fun (r_1040 : List UInt8 × Int) => []) r

noncomputable def cellarerref07_List (l_1035 : List (List UInt8 × List UInt8 × List UInt8)) : Option (List UInt8 × Int) :=
  (cellarerref07_Ones (l_1035)).bind fun a_1036 =>
    (cellarerref07_All (List.drop (0 : Nat) a_1036)).bind fun a_1037 =>
      some (Prod.fst a_1037, Prod.snd a_1037)

def cellarerref07_SameList_res (r : Bool) : AV := (fun (r_1057 : Bool) => AV.bool r_1057) r

def cellarerref07_SameList_out (r : Bool) : List AO := (fun (r_1057 : Bool) => []) r

noncomputable def cellarerref07_SameList_b0 (a_1050 : List (List UInt8 × List UInt8 × List UInt8)) (b_1051 : List (List UInt8 × List UInt8 × List UInt8)) (s_1058 : Int) : Option ((Int) ⊕ (Unit ⊕ Unit)) :=
  bif Decidable.decide (s_1058 < (↑(List.length a_1050) : Int)) then
    if (0 : Int) ≤ s_1058 ∧ s_1058 < (↑(List.length a_1050) : Int) then
      if (0 : Int) ≤ s_1058 ∧ s_1058 < (↑(List.length b_1051) : Int) then
        bif !(Decidable.decide (Prod.fst (List.getD a_1050 (Int.toNat s_1058) ([], [], [])) = Prod.fst (List.getD b_1051 (Int.toNat s_1058) ([], [], []))) && (Decidable.decide (Prod.fst (Prod.snd (List.getD a_1050 (Int.toNat s_1058) ([], [], []))) = Prod.fst (Prod.snd (List.getD b_1051 (Int.toNat s_1058) ([], [], [])))) && Decidable.decide (Prod.snd (Prod.snd (List.getD a_1050 (Int.toNat s_1058) ([], [], []))) = Prod.snd (Prod.snd (List.getD b_1051 (Int.toNat s_1058) ([], [], [])))))) then
          some (Sum.inr (Sum.inl ()))
        else
          some (Sum.inl (IntKind.wrap IntKind.i64 (s_1058 + (1 : Int))))
      else none
    else none
  else
    some (Sum.inr (Sum.inr ()))

noncomputable def cellarerref07_SameList (a_1048 : List (List UInt8 × List UInt8 × List UInt8)) (b_1049 : List (List UInt8 × List UInt8 × List UInt8)) : Option (Bool) :=
  bif !Decidable.decide ((↑(List.length a_1048) : Int) = (↑(List.length b_1049) : Int)) then
    some (Bool.false)
  else
    (iter (cellarerref07_SameList_b0 (a_1048) (b_1049)) ((0 : Int))).bind (Sum.elim (fun t_1053 =>
      some (Bool.false)) (fun t_1054 =>
      some (Bool.true)))

def cellarerref07_Same_res (r : Bool) : AV := (fun (r_1065 : Bool) => AV.bool r_1065) r

def cellarerref07_Same_out (r : Bool) : List AO := (fun (r_1065 : Bool) => []) r

noncomputable def cellarerref07_Same_b0 (a_1045 : List (List (List UInt8 × List UInt8 × List UInt8))) (b_1046 : List (List (List UInt8 × List UInt8 × List UInt8))) (s_1066 : Int) : Option ((Int) ⊕ (Unit ⊕ Unit)) :=
  bif Decidable.decide (s_1066 < (↑(List.length a_1045) : Int)) then
    if (0 : Int) ≤ s_1066 ∧ s_1066 < (↑(List.length a_1045) : Int) then
      if (0 : Int) ≤ s_1066 ∧ s_1066 < (↑(List.length b_1046) : Int) then
        (cellarerref07_SameList (List.getD a_1045 (Int.toNat s_1066) []) (List.getD b_1046 (Int.toNat s_1066) [])).bind fun a_1060 =>
          bif !a_1060 then
            some (Sum.inr (Sum.inl ()))
          else
            some (Sum.inl (IntKind.wrap IntKind.i64 (s_1066 + (1 : Int))))
      else none
    else none
  else
    some (Sum.inr (Sum.inr ()))

noncomputable def cellarerref07_Same (a_1043 : List (List (List UInt8 × List UInt8 × List UInt8))) (b_1044 : List (List (List UInt8 × List UInt8 × List UInt8))) : Option (Bool) :=
  bif !Decidable.decide ((↑(List.length a_1043) : Int) = (↑(List.length b_1044) : Int)) then
    some (Bool.false)
  else
    (iter (cellarerref07_Same_b0 (a_1043) (b_1044)) ((0 : Int))).bind (Sum.elim (fun t_1061 =>
      some (Bool.false)) (fun t_1062 =>
      some (Bool.true)))

def relation_Fits_res (r : Bool) : AV := (fun (r_1080 : Bool) => AV.bool r_1080) r

def relation_Fits_out (r : Bool) : List AO := (fun (r_1080 : Bool) => []) r

noncomputable def relation_Fits (x_1073 : List UInt8) (x_1074 : List UInt8) (x_1075 : List UInt8) (name_1076 : List UInt8) (v_1077 : List UInt8) : Option (Bool) :=
  bif Decidable.decide (x_1073 = name_1076) then
    (version_Holds (v_1077) (x_1074) (x_1075)).bind fun a_1078 =>
      some (a_1078)
  else
    some (Bool.false)

def cellarerref07_Fits_res (r : Bool) : AV := (fun (r_1091 : Bool) => AV.bool r_1091) r

def cellarerref07_Fits_out (r : Bool) : List AO := (fun (r_1091 : Bool) => []) r

noncomputable def cellarerref07_Fits (x_1084 : List UInt8) (x_1085 : List UInt8) (x_1086 : List UInt8) (name_1087 : List UInt8) (v_1088 : List UInt8) : Option (Bool) :=
  bif Decidable.decide (x_1084 = name_1087) then
    (cellarerref05_Holds (v_1088) (x_1085) (x_1086)).bind fun a_1089 =>
      some (a_1089)
  else
    some (Bool.false)

def relation_met_res (r : Bool) : AV := (fun (r_1118 : Bool) => AV.bool r_1118) r

def relation_met_out (r : Bool) : List AO := (fun (r_1118 : Bool) => []) r

noncomputable def relation_met_b0 (t_1104 : List (List UInt8 × List UInt8 × List UInt8)) (t_1105 : Int) (o0_1107 : List UInt8) (o0_1108 : List UInt8) (o0_1109 : List UInt8) (s_1120 : Int) : Option ((Int) ⊕ (Unit ⊕ Unit)) :=
  bif Decidable.decide (s_1120 < t_1105) then
    if (0 : Int) ≤ s_1120 ∧ s_1120 < (↑(List.length t_1104) : Int) then
      (relation_Fits (o0_1107) (o0_1108) (o0_1109) (Prod.fst (List.getD t_1104 (Int.toNat s_1120) ([], [], []))) (Prod.snd (Prod.snd (List.getD t_1104 (Int.toNat s_1120) ([], [], []))))).bind fun a_1110 =>
        bif a_1110 then
          some (Sum.inr (Sum.inl ()))
        else
          some (Sum.inl (IntKind.wrap IntKind.i64 (s_1120 + (1 : Int))))
    else none
  else
    some (Sum.inr (Sum.inr ()))

noncomputable def relation_met_b1 (there_1096 : List (List UInt8 × List UInt8 × List UInt8)) (t_1097 : List (List UInt8 × List UInt8 × List UInt8)) (t_1098 : Int) (s_1119 : Int) : Option ((Int) ⊕ (Unit ⊕ Unit)) :=
  bif Decidable.decide (s_1119 < t_1098) then
    if (0 : Int) ≤ s_1119 ∧ s_1119 < (↑(List.length t_1097) : Int) then
      (iter (relation_met_b0 (there_1096) ((↑(List.length there_1096) : Int)) (Prod.fst (List.getD t_1097 (Int.toNat s_1119) ([], [], []))) (Prod.fst (Prod.snd (List.getD t_1097 (Int.toNat s_1119) ([], [], [])))) (Prod.snd (Prod.snd (List.getD t_1097 (Int.toNat s_1119) ([], [], []))))) ((0 : Int))).bind (Sum.elim (fun t_1111 =>
        some (Sum.inr (Sum.inl ()))) (fun t_1112 =>
        some (Sum.inl (IntKind.wrap IntKind.i64 (s_1119 + (1 : Int))))))
    else none
  else
    some (Sum.inr (Sum.inr ()))

noncomputable def relation_met (g_1094 : List (List UInt8 × List UInt8 × List UInt8)) (there_1095 : List (List UInt8 × List UInt8 × List UInt8)) : Option (Bool) :=
  (iter (relation_met_b1 (there_1095) (g_1094) ((↑(List.length g_1094) : Int))) ((0 : Int))).bind (Sum.elim (fun t_1114 =>
    some (Bool.true)) (fun t_1115 =>
    some (Bool.false)))

def relation_Lacks_res (r : List Int) : AV := (fun (r_1142 : List Int) => AV.view (0 : Nat) (0 : Nat) Option.none) r

def relation_Lacks_out (r : List Int) : List AO := (fun (r_1142 : List Int) => [AO.row (Ty.int IntKind.i64) r_1142]) r

noncomputable def relation_Lacks_b0 (there_1132 : List (List UInt8 × List UInt8 × List UInt8)) (t_1133 : List (List (List UInt8 × List UInt8 × List UInt8))) (t_1134 : Int) (s_1143 : Int × List Int) : Option ((Int × List Int) ⊕ (List Int)) :=
  bif Decidable.decide (Prod.fst s_1143 < t_1134) then
    if (0 : Int) ≤ Prod.fst s_1143 ∧ Prod.fst s_1143 < (↑(List.length t_1133) : Int) then
      (relation_met (List.getD t_1133 (Int.toNat (Prod.fst s_1143)) []) (there_1132)).bind fun a_1137 =>
        bif !a_1137 then
          if (List.length (Prod.snd s_1143) + List.length ((fun (x : List (Ty.T (Ty.int IntKind.i64))) => x) [Prod.fst s_1143])) * (8 : Nat) ≤ (17592186044416 : Nat) then
            some (Sum.inl (IntKind.wrap IntKind.i64 (Prod.fst s_1143 + (1 : Int)), Prod.snd s_1143 ++ [Prod.fst s_1143]))
          else none
        else
          some (Sum.inl (IntKind.wrap IntKind.i64 (Prod.fst s_1143 + (1 : Int)), Prod.snd s_1143))
    else none
  else
    some (Sum.inr (Prod.snd s_1143))

noncomputable def relation_Lacks (l_1125 : List (List (List UInt8 × List UInt8 × List UInt8))) (there_1126 : List (List UInt8 × List UInt8 × List UInt8)) : Option (List Int) :=
  (iter (relation_Lacks_b0 (there_1126) (l_1125) ((↑(List.length l_1125) : Int))) ((0 : Int), [])).bind (fun t_1139 =>
    some (t_1139))

def cellarerref07_Lacks_res (r : List Int) : AV := (fun (r_1198 : List Int) => AV.view (0 : Nat) (0 : Nat) Option.none) r

def cellarerref07_Lacks_out (r : List Int) : List AO := (fun (r_1198 : List Int) => [AO.row (Ty.int IntKind.i64) r_1198]) r

noncomputable def cellarerref07_Lacks_b0 (l_1180 : List (List (List UInt8 × List UInt8 × List UInt8))) (there_1181 : List (List UInt8 × List UInt8 × List UInt8)) (i_1182 : Int) (k_1184 : Int) (s_1201 : Bool × Int) : Option ((Bool × Int) ⊕ (Bool)) :=
  bif Decidable.decide (Prod.snd s_1201 < (↑(List.length there_1181) : Int)) then
    bif Prod.fst s_1201 then
      some (Sum.inl (Bool.true, IntKind.wrap IntKind.i64 (Prod.snd s_1201 + (1 : Int))))
    else
      if (0 : Int) ≤ i_1182 ∧ i_1182 < (↑(List.length l_1180) : Int) then
        if (0 : Int) ≤ k_1184 ∧ k_1184 < (↑(List.length (List.getD l_1180 (Int.toNat i_1182) [])) : Int) then
          if (0 : Int) ≤ Prod.snd s_1201 ∧ Prod.snd s_1201 < (↑(List.length there_1181) : Int) then
            if (0 : Int) ≤ Prod.snd s_1201 ∧ Prod.snd s_1201 < (↑(List.length there_1181) : Int) then
              (cellarerref07_Fits (Prod.fst (List.getD (List.getD l_1180 (Int.toNat i_1182) []) (Int.toNat k_1184) ([], [], []))) (Prod.fst (Prod.snd (List.getD (List.getD l_1180 (Int.toNat i_1182) []) (Int.toNat k_1184) ([], [], [])))) (Prod.snd (Prod.snd (List.getD (List.getD l_1180 (Int.toNat i_1182) []) (Int.toNat k_1184) ([], [], [])))) (Prod.fst (List.getD there_1181 (Int.toNat (Prod.snd s_1201)) ([], [], []))) (Prod.snd (Prod.snd (List.getD there_1181 (Int.toNat (Prod.snd s_1201)) ([], [], []))))).bind fun a_1187 =>
                some (Sum.inl (a_1187, IntKind.wrap IntKind.i64 (Prod.snd s_1201 + (1 : Int))))
            else none
          else none
        else none
      else none
  else
    some (Sum.inr (Prod.fst s_1201))

noncomputable def cellarerref07_Lacks_b1 (l_1174 : List (List (List UInt8 × List UInt8 × List UInt8))) (there_1175 : List (List UInt8 × List UInt8 × List UInt8)) (i_1176 : Int) (s_1200 : Bool × Int) : Option ((Bool × Int) ⊕ (Bool)) :=
  if (0 : Int) ≤ i_1176 ∧ i_1176 < (↑(List.length l_1174) : Int) then
    bif Decidable.decide (Prod.snd s_1200 < (↑(List.length (List.getD l_1174 (Int.toNat i_1176) [])) : Int)) then
      (iter (cellarerref07_Lacks_b0 (l_1174) (there_1175) (i_1176) (Prod.snd s_1200)) (Prod.fst s_1200, (0 : Int))).bind (fun t_1189 =>
        some (Sum.inl (t_1189, IntKind.wrap IntKind.i64 (Prod.snd s_1200 + (1 : Int)))))
    else
      some (Sum.inr (Prod.fst s_1200))
  else none

noncomputable def cellarerref07_Lacks_b2 (l_1170 : List (List (List UInt8 × List UInt8 × List UInt8))) (there_1171 : List (List UInt8 × List UInt8 × List UInt8)) (s_1199 : Int × List Int) : Option ((Int × List Int) ⊕ (List Int)) :=
  bif Decidable.decide (Prod.fst s_1199 < (↑(List.length l_1170) : Int)) then
    (iter (cellarerref07_Lacks_b1 (l_1170) (there_1171) (Prod.fst s_1199)) (Bool.false, (0 : Int))).bind (fun t_1192 =>
      bif !t_1192 then
        if (List.length (Prod.snd s_1199) + List.length ((fun (x : List (Ty.T (Ty.int IntKind.i64))) => x) [Prod.fst s_1199])) * (8 : Nat) ≤ (17592186044416 : Nat) then
          some (Sum.inl (IntKind.wrap IntKind.i64 (Prod.fst s_1199 + (1 : Int)), Prod.snd s_1199 ++ [Prod.fst s_1199]))
        else none
      else
        some (Sum.inl (IntKind.wrap IntKind.i64 (Prod.fst s_1199 + (1 : Int)), Prod.snd s_1199)))
  else
    some (Sum.inr (Prod.snd s_1199))

noncomputable def cellarerref07_Lacks (l_1147 : List (List (List UInt8 × List UInt8 × List UInt8))) (there_1148 : List (List UInt8 × List UInt8 × List UInt8)) : Option (List Int) :=
  (iter (cellarerref07_Lacks_b2 (l_1147) (there_1148)) ((0 : Int), [])).bind (fun t_1195 =>
    some (t_1195))

def cellarerlaw07_few_res (r : Bool) : AV := (fun (r_1222 : Bool) => AV.bool r_1222) r

def cellarerlaw07_few_out (r : Bool) : List AO := (fun (r_1222 : Bool) => []) r

noncomputable def cellarerlaw07_few_b0 (l_1210 : List (List (List UInt8 × List UInt8 × List UInt8))) (i_1212 : Int) (s_1224 : Int × Int) : Option ((Int × Int) ⊕ (Unit ⊕ Int)) :=
  if (0 : Int) ≤ i_1212 ∧ i_1212 < (↑(List.length l_1210) : Int) then
    bif Decidable.decide (Prod.snd s_1224 < (↑(List.length (List.getD l_1210 (Int.toNat i_1212) [])) : Int)) then
      if (0 : Int) ≤ i_1212 ∧ i_1212 < (↑(List.length l_1210) : Int) then
        if (0 : Int) ≤ Prod.snd s_1224 ∧ Prod.snd s_1224 < (↑(List.length (List.getD l_1210 (Int.toNat i_1212) [])) : Int) then
          bif Decidable.decide ((3000 : Int) < IntKind.wrap IntKind.i64 (Prod.fst s_1224 + IntKind.wrap IntKind.i64 (IntKind.wrap IntKind.i64 (IntKind.wrap IntKind.i64 ((if (3000 : Int) < (↑(List.length (Prod.fst (List.getD (List.getD l_1210 (Int.toNat i_1212) []) (Int.toNat (Prod.snd s_1224)) ([], [], [])))) : Int) then (3000 : Int) else (↑(List.length (Prod.fst (List.getD (List.getD l_1210 (Int.toNat i_1212) []) (Int.toNat (Prod.snd s_1224)) ([], [], [])))) : Int)) + if (3000 : Int) < (↑(List.length (Prod.fst (Prod.snd (List.getD (List.getD l_1210 (Int.toNat i_1212) []) (Int.toNat (Prod.snd s_1224)) ([], [], []))))) : Int) then (3000 : Int) else (↑(List.length (Prod.fst (Prod.snd (List.getD (List.getD l_1210 (Int.toNat i_1212) []) (Int.toNat (Prod.snd s_1224)) ([], [], []))))) : Int)) + if (3000 : Int) < (↑(List.length (Prod.snd (Prod.snd (List.getD (List.getD l_1210 (Int.toNat i_1212) []) (Int.toNat (Prod.snd s_1224)) ([], [], []))))) : Int) then (3000 : Int) else (↑(List.length (Prod.snd (Prod.snd (List.getD (List.getD l_1210 (Int.toNat i_1212) []) (Int.toNat (Prod.snd s_1224)) ([], [], []))))) : Int)) + (1 : Int)))) then
            some (Sum.inr (Sum.inl ()))
          else
            some (Sum.inl (IntKind.wrap IntKind.i64 (Prod.fst s_1224 + IntKind.wrap IntKind.i64 (IntKind.wrap IntKind.i64 (IntKind.wrap IntKind.i64 ((if (3000 : Int) < (↑(List.length (Prod.fst (List.getD (List.getD l_1210 (Int.toNat i_1212) []) (Int.toNat (Prod.snd s_1224)) ([], [], [])))) : Int) then (3000 : Int) else (↑(List.length (Prod.fst (List.getD (List.getD l_1210 (Int.toNat i_1212) []) (Int.toNat (Prod.snd s_1224)) ([], [], [])))) : Int)) + if (3000 : Int) < (↑(List.length (Prod.fst (Prod.snd (List.getD (List.getD l_1210 (Int.toNat i_1212) []) (Int.toNat (Prod.snd s_1224)) ([], [], []))))) : Int) then (3000 : Int) else (↑(List.length (Prod.fst (Prod.snd (List.getD (List.getD l_1210 (Int.toNat i_1212) []) (Int.toNat (Prod.snd s_1224)) ([], [], []))))) : Int)) + if (3000 : Int) < (↑(List.length (Prod.snd (Prod.snd (List.getD (List.getD l_1210 (Int.toNat i_1212) []) (Int.toNat (Prod.snd s_1224)) ([], [], []))))) : Int) then (3000 : Int) else (↑(List.length (Prod.snd (Prod.snd (List.getD (List.getD l_1210 (Int.toNat i_1212) []) (Int.toNat (Prod.snd s_1224)) ([], [], []))))) : Int)) + (1 : Int))), IntKind.wrap IntKind.i64 (Prod.snd s_1224 + (1 : Int))))
        else none
      else none
    else
      some (Sum.inr (Sum.inr (Prod.fst s_1224)))
  else none

noncomputable def cellarerlaw07_few_b1 (l_1207 : List (List (List UInt8 × List UInt8 × List UInt8))) (s_1223 : Int × Int) : Option ((Int × Int) ⊕ (Unit ⊕ Unit)) :=
  bif Decidable.decide (Prod.snd s_1223 < (↑(List.length l_1207) : Int)) then
    if (0 : Int) ≤ Prod.snd s_1223 ∧ Prod.snd s_1223 < (↑(List.length l_1207) : Int) then
      bif Decidable.decide ((70 : Int) < (↑(List.length (List.getD l_1207 (Int.toNat (Prod.snd s_1223)) [])) : Int)) then
        some (Sum.inr (Sum.inl ()))
      else
        (iter (cellarerlaw07_few_b0 (l_1207) (Prod.snd s_1223)) (Prod.fst s_1223, (0 : Int))).bind (Sum.elim (fun t_1214 =>
          some (Sum.inr (Sum.inl ()))) (fun t_1216 =>
          some (Sum.inl (t_1216, IntKind.wrap IntKind.i64 (Prod.snd s_1223 + (1 : Int))))))
    else none
  else
    some (Sum.inr (Sum.inr ()))

noncomputable def cellarerlaw07_few (l_1206 : List (List (List UInt8 × List UInt8 × List UInt8))) : Option (Bool) :=
  bif Decidable.decide ((70 : Int) < (↑(List.length l_1206) : Int)) then
    some (Bool.false)
  else
    (iter (cellarerlaw07_few_b1 (l_1206)) ((0 : Int), (0 : Int))).bind (Sum.elim (fun t_1218 =>
      some (Bool.false)) (fun t_1219 =>
      some (Bool.true)))

def cellarerlaw07_awake_res (r : Bool) : AV := (fun (r_1232 : Bool) => AV.bool r_1232) r

def cellarerlaw07_awake_out (r : Bool) : List AO := (fun (r_1232 : Bool) => []) r

noncomputable def cellarerlaw07_awake  : Option (Bool) :=
  (relation_ParseAll ([(97 : UInt8), (32 : UInt8), (40 : UInt8), (62 : UInt8), (61 : UInt8), (32 : UInt8), (49 : UInt8), (41 : UInt8), (32 : UInt8), (124 : UInt8), (32 : UInt8), (98 : UInt8), (44 : UInt8), (32 : UInt8), (99 : UInt8)])).bind fun a_1227 =>
    (relation_All (List.drop (0 : Nat) (Prod.snd a_1227))).bind fun a_1228 =>
      bif Decidable.decide (Prod.fst a_1227 = (0 : Int)) then
        bif Decidable.decide (Prod.snd a_1228 = (0 : Int)) then
          bif Decidable.decide ((↑(List.length (Prod.snd a_1227)) : Int) - (↑(0 : Nat) : Int) = (2 : Int)) then
            if (0 : Int) ≤ (0 : Int) ∧ (0 : Int) + (↑(0 : Nat) : Int) < (↑(List.length (Prod.snd a_1227)) : Int) then
              if (0 : Nat) < List.length (Prod.snd a_1227) then
                bif Decidable.decide ((↑(List.length (List.getD (Prod.snd a_1227) (0 : Nat) [])) : Int) = (2 : Int)) then
                  bif Decidable.decide (Prod.fst a_1228 = [(97 : UInt8), (32 : UInt8), (40 : UInt8), (62 : UInt8), (61 : UInt8), (32 : UInt8), (49 : UInt8), (41 : UInt8), (32 : UInt8), (124 : UInt8), (32 : UInt8), (98 : UInt8), (44 : UInt8), (32 : UInt8), (99 : UInt8)]) then
                    if (0 : Int) ≤ (0 : Int) ∧ (0 : Int) + (↑(0 : Nat) : Int) < (↑(List.length (Prod.snd a_1227)) : Int) then
                      if (0 : Nat) < List.length (Prod.snd a_1227) then
                        if (0 : Int) ≤ (0 : Int) ∧ (0 : Int) < (↑(List.length (List.getD (Prod.snd a_1227) (0 : Nat) [])) : Int) then
                          (relation_Right (Prod.fst (List.getD (List.getD (Prod.snd a_1227) (0 : Nat) []) (Int.toNat (0 : Int)) ([], [], []))) (Prod.fst (Prod.snd (List.getD (List.getD (Prod.snd a_1227) (0 : Nat) []) (Int.toNat (0 : Int)) ([], [], [])))) (Prod.snd (Prod.snd (List.getD (List.getD (Prod.snd a_1227) (0 : Nat) []) (Int.toNat (0 : Int)) ([], [], []))))).bind fun a_1229 =>
                            bif a_1229 then
                              (relation_Lacks (List.drop (0 : Nat) (Prod.snd a_1227)) ([([(98 : UInt8)], [], [(51 : UInt8)])])).bind fun a_1230 =>
                                some (Decidable.decide ((↑(List.length a_1230) : Int) - (↑(0 : Nat) : Int) = (1 : Int)))
                            else
                              some (Bool.false)
                        else none
                      else none
                    else none
                  else
                    some (Bool.false)
                else
                  some (Bool.false)
              else none
            else none
          else
            some (Bool.false)
        else
          some (Bool.false)
      else
        some (Bool.false)

def cellarerlaw07_RelationTexts_res (r : Bool) : AV := (fun (r_1266 : Bool) => AV.bool r_1266) r

def cellarerlaw07_RelationTexts_out (r : Bool) : List AO := (fun (r_1266 : Bool) => []) r

noncomputable def cellarerlaw07_RelationTexts (x_1235 : List UInt8) (x_1236 : List UInt8) (x_1237 : List UInt8) (s_1238 : List UInt8) : Option (Bool) :=
  Option.bind (α := Bool ⊕ Unit) (
    (cellarerlaw07_few ([[(x_1235, x_1236, x_1237)]])).bind fun a_1239 =>
      bif !a_1239 then
        (cellarerlaw07_awake ).bind fun a_1240 =>
          some (Sum.inl (a_1240))
      else
        bif Decidable.decide ((1000 : Int) < (↑(List.length s_1238) : Int)) then
          (cellarerlaw07_awake ).bind fun a_1241 =>
            some (Sum.inl (a_1241))
        else
          some (Sum.inr ())) (Sum.elim (fun t_1243 =>
    some (t_1243)) (fun t_1244 =>
    (relation_Parse (s_1238)).bind fun a_1245 =>
      (cellarerref07_Parse (s_1238)).bind fun a_1246 =>
        Option.bind (α := Unit ⊕ Unit) (
          bif !(Decidable.decide (Prod.fst a_1245 = Prod.fst a_1246) && (Decidable.decide (Prod.fst (Prod.snd a_1245) = Prod.fst (Prod.snd a_1246)) && Decidable.decide (Prod.fst (Prod.snd (Prod.snd a_1245)) = Prod.fst (Prod.snd (Prod.snd a_1246))))) then
            some (Sum.inl ())
          else
            (cellarerlaw07_is (Prod.snd (Prod.snd (Prod.snd a_1245))) (Prod.snd (Prod.snd (Prod.snd a_1246)))).bind fun a_1247 =>
              bif !a_1247 then
                some (Sum.inl ())
              else
                (relation_Right (x_1235) (x_1236) (x_1237)).bind fun a_1248 =>
                  (cellarerref07_Right (x_1235) (x_1236) (x_1237)).bind fun a_1249 =>
                    bif !Decidable.decide (a_1248 = a_1249) then
                      some (Sum.inl ())
                    else
                      (relation_Text (x_1235) (x_1236) (x_1237)).bind fun a_1250 =>
                        (cellarerref07_Text (x_1235) (x_1236) (x_1237)).bind fun a_1251 =>
                          bif !Decidable.decide (a_1250 = a_1251) then
                            some (Sum.inl ())
                          else
                            some (Sum.inr ())) (Sum.elim (fun t_1252 =>
          some (Bool.false)) (fun t_1253 =>
          (relation_Text (x_1235) (x_1236) (x_1237)).bind fun a_1254 =>
            (relation_Parse (a_1254)).bind fun a_1255 =>
              (relation_Right (x_1235) (x_1236) (x_1237)).bind fun a_1256 =>
                bif !a_1256 then
                  bif !Prod.snd (Prod.snd (Prod.snd a_1246)) then
                    (cellarerlaw07_awake ).bind fun a_1257 =>
                      some (a_1257)
                  else
                    (relation_Text (Prod.fst a_1245) (Prod.fst (Prod.snd a_1245)) (Prod.fst (Prod.snd (Prod.snd a_1245)))).bind fun a_1258 =>
                      bif Decidable.decide (a_1258 = s_1238) then
                        (cellarerlaw07_awake ).bind fun a_1259 =>
                          some (a_1259)
                      else
                        some (Bool.false)
                else
                  bif Decidable.decide (Prod.snd (Prod.snd (Prod.snd a_1255)) = (0 : Int)) then
                    bif Decidable.decide (Prod.fst a_1255 = x_1235) && (Decidable.decide (Prod.fst (Prod.snd a_1255) = x_1236) && Decidable.decide (Prod.fst (Prod.snd (Prod.snd a_1255)) = x_1237)) then
                      bif !Prod.snd (Prod.snd (Prod.snd a_1246)) then
                        (cellarerlaw07_awake ).bind fun a_1260 =>
                          some (a_1260)
                      else
                        (relation_Text (Prod.fst a_1245) (Prod.fst (Prod.snd a_1245)) (Prod.fst (Prod.snd (Prod.snd a_1245)))).bind fun a_1261 =>
                          bif Decidable.decide (a_1261 = s_1238) then
                            (cellarerlaw07_awake ).bind fun a_1262 =>
                              some (a_1262)
                          else
                            some (Bool.false)
                    else
                      some (Bool.false)
                  else
                    some (Bool.false)))))

def cellarerlaw07_RelationGroups_res (r : Bool) : AV := (fun (r_1281 : Bool) => AV.bool r_1281) r

def cellarerlaw07_RelationGroups_out (r : Bool) : List AO := (fun (r_1281 : Bool) => []) r

noncomputable def cellarerlaw07_RelationGroups (l_1268 : List (List (List UInt8 × List UInt8 × List UInt8))) : Option (Bool) :=
  (cellarerlaw07_few (l_1268)).bind fun a_1269 =>
    bif !a_1269 then
      (cellarerlaw07_awake ).bind fun a_1270 =>
        some (a_1270)
    else
      (relation_All (l_1268)).bind fun a_1271 =>
        (cellarerref07_All (l_1268)).bind fun a_1272 =>
          Option.bind (α := Unit ⊕ Unit) (
            bif !Decidable.decide (Prod.fst a_1271 = Prod.fst a_1272) then
              some (Sum.inl ())
            else
              bif !Decidable.decide (Prod.snd a_1271 = Prod.snd a_1272) then
                some (Sum.inl ())
              else
                some (Sum.inr ())) (Sum.elim (fun t_1273 =>
            some (Bool.false)) (fun t_1274 =>
            bif !Decidable.decide (Prod.snd a_1271 = (0 : Int)) then
              (cellarerlaw07_awake ).bind fun a_1275 =>
                some (a_1275)
            else
              (relation_ParseAll (Prod.fst a_1271)).bind fun a_1276 =>
                bif Decidable.decide (Prod.fst a_1276 = (0 : Int)) then
                  (cellarerref07_Same (List.drop (0 : Nat) (Prod.snd a_1276)) (l_1268)).bind fun a_1277 =>
                    bif a_1277 then
                      (cellarerlaw07_awake ).bind fun a_1278 =>
                        some (a_1278)
                    else
                      some (Bool.false)
                else
                  some (Bool.false)))

def cellarerlaw07_RelationLacks_res (r : Bool) : AV := (fun (r_1339 : Bool) => AV.bool r_1339) r

def cellarerlaw07_RelationLacks_out (r : Bool) : List AO := (fun (r_1339 : Bool) => []) r

noncomputable def cellarerlaw07_RelationLacks_b0 (there_1298 : List (List UInt8 × List UInt8 × List UInt8)) (o0_1300 : List UInt8) (o0_1301 : List UInt8) (o0_1302 : List UInt8) (s_1340 : Int) : Option ((Int) ⊕ (Unit ⊕ Unit)) :=
  bif Decidable.decide (s_1340 < (↑(List.length there_1298) : Int)) then
    if (0 : Int) ≤ s_1340 ∧ s_1340 < (↑(List.length there_1298) : Int) then
      if (0 : Int) ≤ s_1340 ∧ s_1340 < (↑(List.length there_1298) : Int) then
        (relation_Fits (o0_1300) (o0_1301) (o0_1302) (Prod.fst (List.getD there_1298 (Int.toNat s_1340) ([], [], []))) (Prod.snd (Prod.snd (List.getD there_1298 (Int.toNat s_1340) ([], [], []))))).bind fun a_1303 =>
          if (0 : Int) ≤ s_1340 ∧ s_1340 < (↑(List.length there_1298) : Int) then
            if (0 : Int) ≤ s_1340 ∧ s_1340 < (↑(List.length there_1298) : Int) then
              (cellarerref07_Fits (o0_1300) (o0_1301) (o0_1302) (Prod.fst (List.getD there_1298 (Int.toNat s_1340) ([], [], []))) (Prod.snd (Prod.snd (List.getD there_1298 (Int.toNat s_1340) ([], [], []))))).bind fun a_1304 =>
                bif !Decidable.decide (a_1303 = a_1304) then
                  some (Sum.inr (Sum.inl ()))
                else
                  some (Sum.inl (IntKind.wrap IntKind.i64 (s_1340 + (1 : Int))))
            else none
          else none
      else none
    else none
  else
    some (Sum.inr (Sum.inr ()))

noncomputable def cellarerlaw07_RelationLacks_b1 (o1_1315 : List Int) (o2_1316 : List Int) (s_1341 : Int) : Option ((Int) ⊕ (Unit ⊕ Unit)) :=
  bif Decidable.decide (s_1341 < (↑(List.length o1_1315) : Int) - (↑(0 : Nat) : Int)) then
    if (0 : Int) ≤ s_1341 ∧ s_1341 + (↑(0 : Nat) : Int) < (↑(List.length o1_1315) : Int) then
      if (0 : Nat) + Int.toNat s_1341 < List.length o1_1315 then
        if (0 : Int) ≤ s_1341 ∧ s_1341 + (↑(0 : Nat) : Int) < (↑(List.length o2_1316) : Int) then
          if (0 : Nat) + Int.toNat s_1341 < List.length o2_1316 then
            bif !Decidable.decide (List.getD o1_1315 ((0 : Nat) + Int.toNat s_1341) (0 : Int) = List.getD o2_1316 ((0 : Nat) + Int.toNat s_1341) (0 : Int)) then
              some (Sum.inr (Sum.inl ()))
            else
              some (Sum.inl (IntKind.wrap IntKind.i64 (s_1341 + (1 : Int))))
          else none
        else none
      else none
    else none
  else
    some (Sum.inr (Sum.inr ()))

noncomputable def cellarerlaw07_RelationLacks_b2 (i_1323 : Int) (o0_1326 : List Int) (o1_1327 : List Int) (s_1343 : Bool × Int) : Option ((Bool × Int) ⊕ (Bool)) :=
  bif Decidable.decide (Prod.snd s_1343 < (↑(List.length o0_1326) : Int) - (↑(0 : Nat) : Int)) then
    bif Prod.fst s_1343 then
      some (Sum.inl (Bool.true, IntKind.wrap IntKind.i64 (Prod.snd s_1343 + (1 : Int))))
    else
      if (0 : Int) ≤ Prod.snd s_1343 ∧ Prod.snd s_1343 + (↑(0 : Nat) : Int) < (↑(List.length o0_1326) : Int) then
        if (0 : Nat) + Int.toNat (Prod.snd s_1343) < List.length o0_1326 then
          if (0 : Int) ≤ i_1323 ∧ i_1323 + (↑(0 : Nat) : Int) < (↑(List.length o1_1327) : Int) then
            if (0 : Nat) + Int.toNat i_1323 < List.length o1_1327 then
              some (Sum.inl (Decidable.decide (List.getD o0_1326 ((0 : Nat) + Int.toNat (Prod.snd s_1343)) (0 : Int) = List.getD o1_1327 ((0 : Nat) + Int.toNat i_1323) (0 : Int)), IntKind.wrap IntKind.i64 (Prod.snd s_1343 + (1 : Int))))
            else none
          else none
        else none
      else none
  else
    some (Sum.inr (Prod.fst s_1343))

noncomputable def cellarerlaw07_RelationLacks_b3 (o0_1321 : List Int) (o1_1322 : List Int) (s_1342 : Int) : Option ((Int) ⊕ (Unit ⊕ Unit)) :=
  bif Decidable.decide (s_1342 < (↑(List.length o1_1322) : Int) - (↑(0 : Nat) : Int)) then
    (iter (cellarerlaw07_RelationLacks_b2 (s_1342) (o0_1321) (o1_1322)) (Bool.false, (0 : Int))).bind (fun t_1329 =>
      bif !t_1329 then
        some (Sum.inr (Sum.inl ()))
      else
        some (Sum.inl (IntKind.wrap IntKind.i64 (s_1342 + (1 : Int)))))
  else
    some (Sum.inr (Sum.inr ()))

noncomputable def cellarerlaw07_RelationLacks (l_1285 : List (List (List UInt8 × List UInt8 × List UInt8))) (there_1286 : List (List UInt8 × List UInt8 × List UInt8)) (more_1287 : List UInt8) (more_1288 : List UInt8) (more_1289 : List UInt8) : Option (Bool) :=
  Option.bind (α := Bool ⊕ Unit) (
    (cellarerlaw07_few (l_1285)).bind fun a_1290 =>
      bif !a_1290 then
        (cellarerlaw07_awake ).bind fun a_1291 =>
          some (Sum.inl (a_1291))
      else
        (cellarerlaw07_few ([there_1286, [(more_1287, more_1288, more_1289)]])).bind fun a_1292 =>
          bif !a_1292 then
            (cellarerlaw07_awake ).bind fun a_1293 =>
              some (Sum.inl (a_1293))
          else
            some (Sum.inr ())) (Sum.elim (fun t_1295 =>
    some (t_1295)) (fun t_1296 =>
    (iter (cellarerlaw07_RelationLacks_b0 (there_1286) (more_1287) (more_1288) (more_1289)) ((0 : Int))).bind (Sum.elim (fun t_1305 =>
      some (Bool.false)) (fun t_1306 =>
      (relation_Lacks (l_1285) (there_1286)).bind fun a_1307 =>
        (cellarerref07_Lacks (l_1285) (there_1286)).bind fun a_1308 =>
          bif !Decidable.decide ((↑(List.length a_1307) : Int) - (↑(0 : Nat) : Int) = (↑(List.length a_1308) : Int) - (↑(0 : Nat) : Int)) then
            some (Bool.false)
          else
            (iter (cellarerlaw07_RelationLacks_b1 (a_1307) (a_1308)) ((0 : Int))).bind (Sum.elim (fun t_1317 =>
              some (Bool.false)) (fun t_1318 =>
              if List.length there_1286 * (48 : Nat) ≤ (17592186044416 : Nat) then
                if (List.length there_1286 + List.length ((fun (x : List (Ty.T (Ty.prod Ty.str (Ty.prod Ty.str Ty.str)))) => x) [(more_1287, more_1288, more_1289)])) * (48 : Nat) ≤ (17592186044416 : Nat) then
                  (relation_Lacks (l_1285) (List.drop (0 : Nat) (there_1286 ++ [(more_1287, more_1288, more_1289)]))).bind fun a_1319 =>
                    (iter (cellarerlaw07_RelationLacks_b3 (a_1307) (a_1319)) ((0 : Int))).bind (Sum.elim (fun t_1331 =>
                      some (Bool.false)) (fun t_1332 =>
                      (cellarerlaw07_awake ).bind fun a_1333 =>
                        some (a_1333)))
                else none
              else none))))))

def cellarerlaw07_RelationParses_res (r : Bool) : AV := (fun (r_1366 : Bool) => AV.bool r_1366) r

def cellarerlaw07_RelationParses_out (r : Bool) : List AO := (fun (r_1366 : Bool) => []) r

noncomputable def cellarerlaw07_RelationParses (s_1349 : List UInt8) : Option (Bool) :=
  bif Decidable.decide ((2000 : Int) < (↑(List.length s_1349) : Int)) then
    (cellarerlaw07_awake ).bind fun a_1350 =>
      some (a_1350)
  else
    (relation_ParseAll (s_1349)).bind fun a_1351 =>
      (cellarerref07_ParseAll (s_1349)).bind fun a_1352 =>
        (relation_ParseList (s_1349)).bind fun a_1353 =>
          (cellarerref07_ParseList (s_1349)).bind fun a_1354 =>
            Option.bind (α := Unit ⊕ Unit) (
              (cellarerref07_Same (List.drop (0 : Nat) (Prod.snd a_1351)) (List.drop (0 : Nat) (Prod.snd a_1352))).bind fun a_1355 =>
                bif !a_1355 then
                  some (Sum.inl ())
                else
                  (cellarerlaw07_is (Prod.fst a_1351) (Prod.fst a_1352)).bind fun a_1356 =>
                    bif !a_1356 then
                      some (Sum.inl ())
                    else
                      (cellarerref07_SameList (List.drop (0 : Nat) (Prod.snd a_1353)) (List.drop (0 : Nat) (Prod.snd a_1354))).bind fun a_1357 =>
                        bif !a_1357 then
                          some (Sum.inl ())
                        else
                          (cellarerlaw07_is (Prod.fst a_1353) (Prod.fst a_1354)).bind fun a_1358 =>
                            bif !a_1358 then
                              some (Sum.inl ())
                            else
                              some (Sum.inr ())) (Sum.elim (fun t_1359 =>
              some (Bool.false)) (fun t_1360 =>
              (relation_All (List.drop (0 : Nat) (Prod.snd a_1351))).bind fun a_1361 =>
                bif !Prod.fst a_1352 then
                  (cellarerlaw07_awake ).bind fun a_1362 =>
                    some (a_1362)
                else
                  bif Decidable.decide (Prod.snd a_1361 = (0 : Int)) then
                    bif Decidable.decide (Prod.fst a_1361 = s_1349) then
                      (cellarerlaw07_awake ).bind fun a_1363 =>
                        some (a_1363)
                    else
                      some (Bool.false)
                  else
                    some (Bool.false)))

def cellarerlaw07_RelationLists_res (r : Bool) : AV := (fun (r_1381 : Bool) => AV.bool r_1381) r

def cellarerlaw07_RelationLists_out (r : Bool) : List AO := (fun (r_1381 : Bool) => []) r

noncomputable def cellarerlaw07_RelationLists (l_1368 : List (List UInt8 × List UInt8 × List UInt8)) : Option (Bool) :=
  (cellarerlaw07_few ([l_1368])).bind fun a_1369 =>
    bif !a_1369 then
      (cellarerlaw07_awake ).bind fun a_1370 =>
        some (a_1370)
    else
      (relation_List (l_1368)).bind fun a_1371 =>
        (cellarerref07_List (l_1368)).bind fun a_1372 =>
          Option.bind (α := Unit ⊕ Unit) (
            bif !Decidable.decide (Prod.fst a_1371 = Prod.fst a_1372) then
              some (Sum.inl ())
            else
              bif !Decidable.decide (Prod.snd a_1371 = Prod.snd a_1372) then
                some (Sum.inl ())
              else
                some (Sum.inr ())) (Sum.elim (fun t_1373 =>
            some (Bool.false)) (fun t_1374 =>
            bif !Decidable.decide (Prod.snd a_1371 = (0 : Int)) then
              (cellarerlaw07_awake ).bind fun a_1375 =>
                some (a_1375)
            else
              (relation_ParseList (Prod.fst a_1371)).bind fun a_1376 =>
                bif Decidable.decide (Prod.fst a_1376 = (0 : Int)) then
                  (cellarerref07_SameList (List.drop (0 : Nat) (Prod.snd a_1376)) (l_1368)).bind fun a_1377 =>
                    bif a_1377 then
                      (cellarerlaw07_awake ).bind fun a_1378 =>
                        some (a_1378)
                    else
                      some (Bool.false)
                else
                  some (Bool.false)))

end Go.Cellar
