/- The program's functions, as plain Lean functions: printed by a program out of the translation. No condition. -/
import Derived.Test.YtapfjjbgcfnnmaaDoorAbs26
import Derived.Test.YtapfjjbgcfnnmaaDoorProg
set_option maxRecDepth 4000
set_option synthInstance.maxHeartbeats 2000000
set_option synthInstance.maxSize 100000
set_option linter.unusedVariables false
namespace Go.Cellar
open Go

def cellarerref05_at_res (r : Int) : AV := (fun (r_15 : Int) => AV.int IntKind.i64 r_15) r

def cellarerref05_at_out (r : Int) : List AO := (fun (r_15 : Int) => []) r

noncomputable def cellarerref05_at_b0 (s_6 : List UInt8) (c_7 : Int) (last_8 : Bool) (s_16 : Int × Int) : Option ((Int × Int) ⊕ (Int)) :=
  bif Decidable.decide (Prod.snd s_16 < (↑(List.length s_6) : Int)) then
    if (0 : Int) ≤ Prod.snd s_16 ∧ Prod.snd s_16 < (↑(List.length s_6) : Int) then
      bif Decidable.decide ((↑(UInt8.toNat (List.getD s_6 (Int.toNat (Prod.snd s_16)) (0 : UInt8))) : Int) = c_7) then
        bif last_8 then
          some (Sum.inl (Prod.snd s_16, IntKind.wrap IntKind.i64 (Prod.snd s_16 + (1 : Int))))
        else
          bif Decidable.decide (Prod.fst s_16 < (0 : Int)) then
            some (Sum.inl (Prod.snd s_16, IntKind.wrap IntKind.i64 (Prod.snd s_16 + (1 : Int))))
          else
            some (Sum.inl (Prod.fst s_16, IntKind.wrap IntKind.i64 (Prod.snd s_16 + (1 : Int))))
      else
        some (Sum.inl (Prod.fst s_16, IntKind.wrap IntKind.i64 (Prod.snd s_16 + (1 : Int))))
    else none
  else
    some (Sum.inr (Prod.fst s_16))

noncomputable def cellarerref05_at (s_3 : List UInt8) (c_4 : Int) (last_5 : Bool) : Option (Int) :=
  (iter (cellarerref05_at_b0 (s_3) (c_4) (last_5)) ((-1 : Int), (0 : Int))).bind (fun t_12 =>
    some (t_12))

def cellarerref05_Digit_res (r : Bool) : AV := (fun (r_21 : Bool) => AV.bool r_21) r

def cellarerref05_Digit_out (r : Bool) : List AO := (fun (r_21 : Bool) => []) r

noncomputable def cellarerref05_Digit (c_19 : Int) : Option (Bool) :=
  bif Decidable.decide ((48 : Int) ≤ c_19) then
    some (Decidable.decide (c_19 ≤ (57 : Int)))
  else
    some (Bool.false)

def version_digit_res (r : Bool) : AV := (fun (r_25 : Bool) => AV.bool r_25) r

def version_digit_out (r : Bool) : List AO := (fun (r_25 : Bool) => []) r

noncomputable def version_digit (c_23 : Int) : Option (Bool) :=
  bif Decidable.decide ((48 : Int) ≤ c_23) then
    some (Decidable.decide (c_23 ≤ (57 : Int)))
  else
    some (Bool.false)

def version_letter_res (r : Bool) : AV := (fun (r_29 : Bool) => AV.bool r_29) r

def version_letter_out (r : Bool) : List AO := (fun (r_29 : Bool) => []) r

noncomputable def version_letter (c_27 : Int) : Option (Bool) :=
  bif Decidable.decide ((97 : Int) ≤ c_27) then
    bif Decidable.decide (c_27 ≤ (122 : Int)) then
      some (Bool.true)
    else
      bif Decidable.decide ((65 : Int) ≤ c_27) then
        some (Decidable.decide (c_27 ≤ (90 : Int)))
      else
        some (Bool.false)
  else
    bif Decidable.decide ((65 : Int) ≤ c_27) then
      some (Decidable.decide (c_27 ≤ (90 : Int)))
    else
      some (Bool.false)

def cellarerref05_Letter_res (r : Bool) : AV := (fun (r_33 : Bool) => AV.bool r_33) r

def cellarerref05_Letter_out (r : Bool) : List AO := (fun (r_33 : Bool) => []) r

noncomputable def cellarerref05_Letter (c_31 : Int) : Option (Bool) :=
  bif Decidable.decide ((97 : Int) ≤ c_31) then
    bif Decidable.decide (c_31 ≤ (122 : Int)) then
      some (Bool.true)
    else
      bif Decidable.decide ((65 : Int) ≤ c_31) then
        some (Decidable.decide (c_31 ≤ (90 : Int)))
      else
        some (Bool.false)
  else
    bif Decidable.decide ((65 : Int) ≤ c_31) then
      some (Decidable.decide (c_31 ≤ (90 : Int)))
    else
      some (Bool.false)

def stringslite_IndexByte_res (r : Int) : AV := (fun (r_41 : Int) => AV.int IntKind.i64 r_41) r

def stringslite_IndexByte_out (r : Int) : List AO := (fun (r_41 : Int) => []) r

noncomputable def stringslite_IndexByte (s_38 : List UInt8) (c_39 : Int) : Option (Int) :=
  if (0 : Int) ≤ c_39 ∧ c_39 < (256 : Int) then
    some (idxByte c_39 s_38 (0 : Int))
  else none

def strings_IndexByte_res (r : Int) : AV := (fun (r_44 : Int) => AV.int IntKind.i64 r_44) r

def strings_IndexByte_out (r : Int) : List AO := (fun (r_44 : Int) => []) r

noncomputable def strings_IndexByte (s_36 : List UInt8) (c_37 : Int) : Option (Int) :=
  (stringslite_IndexByte (s_36) (c_37)).bind fun a_42 =>
    some (a_42)

def bytealg_LastIndexByteString_res (r : Int) : AV := (fun (r_59 : Int) => AV.int IntKind.i64 r_59) r

def bytealg_LastIndexByteString_out (r : Int) : List AO := (fun (r_59 : Int) => []) r

noncomputable def bytealg_LastIndexByteString_b0 (s_51 : List UInt8) (c_52 : Int) (s_60 : Int) : Option ((Int) ⊕ (Int ⊕ Unit)) :=
  bif Decidable.decide ((0 : Int) ≤ s_60) then
    if (0 : Int) ≤ s_60 ∧ s_60 < (↑(List.length s_51) : Int) then
      bif Decidable.decide ((↑(UInt8.toNat (List.getD s_51 (Int.toNat s_60) (0 : UInt8))) : Int) = c_52) then
        some (Sum.inr (Sum.inl (s_60)))
      else
        some (Sum.inl (IntKind.wrap IntKind.i64 (s_60 - (1 : Int))))
    else none
  else
    some (Sum.inr (Sum.inr ()))

noncomputable def bytealg_LastIndexByteString (s_49 : List UInt8) (c_50 : Int) : Option (Int) :=
  (iter (bytealg_LastIndexByteString_b0 (s_49) (c_50)) (IntKind.wrap IntKind.i64 ((↑(List.length s_49) : Int) - (1 : Int)))).bind (Sum.elim (fun t_55 =>
    some (t_55)) (fun t_56 =>
    some ((-1 : Int))))

def strings_LastIndexByte_res (r : Int) : AV := (fun (r_64 : Int) => AV.int IntKind.i64 r_64) r

def strings_LastIndexByte_out (r : Int) : List AO := (fun (r_64 : Int) => []) r

noncomputable def strings_LastIndexByte (s_47 : List UInt8) (c_48 : Int) : Option (Int) :=
  (bytealg_LastIndexByteString (s_47) (c_48)).bind fun a_62 =>
    some (a_62)

def version_only_res (r : Bool) : AV := (fun (r_80 : Bool) => AV.bool r_80) r

def version_only_out (r : Bool) : List AO := (fun (r_80 : Bool) => []) r

noncomputable def version_only_b0 (s_69 : List UInt8) (marks_70 : List UInt8) (t_71 : Int) (s_81 : Int) : Option ((Int) ⊕ (Unit ⊕ Unit)) :=
  bif Decidable.decide (s_81 < t_71) then
    if (0 : Int) ≤ s_81 ∧ s_81 < (↑(List.length s_69) : Int) then
      (version_digit ((↑(UInt8.toNat (List.getD s_69 (Int.toNat s_81) (0 : UInt8))) : Int))).bind fun a_73 =>
        bif !a_73 then
          if (0 : Int) ≤ s_81 ∧ s_81 < (↑(List.length s_69) : Int) then
            (version_letter ((↑(UInt8.toNat (List.getD s_69 (Int.toNat s_81) (0 : UInt8))) : Int))).bind fun a_74 =>
              bif !a_74 then
                if (0 : Int) ≤ s_81 ∧ s_81 < (↑(List.length s_69) : Int) then
                  (strings_IndexByte (marks_70) ((↑(UInt8.toNat (List.getD s_69 (Int.toNat s_81) (0 : UInt8))) : Int))).bind fun a_75 =>
                    bif Decidable.decide (a_75 < (0 : Int)) then
                      some (Sum.inr (Sum.inl ()))
                    else
                      some (Sum.inl (IntKind.wrap IntKind.i64 (s_81 + (1 : Int))))
                else none
              else
                some (Sum.inl (IntKind.wrap IntKind.i64 (s_81 + (1 : Int))))
          else none
        else
          some (Sum.inl (IntKind.wrap IntKind.i64 (s_81 + (1 : Int))))
    else none
  else
    some (Sum.inr (Sum.inr ()))

noncomputable def version_only (s_67 : List UInt8) (marks_68 : List UInt8) : Option (Bool) :=
  (iter (version_only_b0 (s_67) (marks_68) ((↑(List.length s_67) : Int))) ((0 : Int))).bind (Sum.elim (fun t_76 =>
    some (Bool.false)) (fun t_77 =>
    some (Bool.true)))

def cellarerref05_only_res (r : Bool) : AV := (fun (r_97 : Bool) => AV.bool r_97) r

def cellarerref05_only_out (r : Bool) : List AO := (fun (r_97 : Bool) => []) r

noncomputable def cellarerref05_only_b0 (s_87 : List UInt8) (marks_88 : List UInt8) (s_98 : Int) : Option ((Int) ⊕ (Unit ⊕ Unit)) :=
  bif Decidable.decide (s_98 < (↑(List.length s_87) : Int)) then
    if (0 : Int) ≤ s_98 ∧ s_98 < (↑(List.length s_87) : Int) then
      (cellarerref05_Digit ((↑(UInt8.toNat (List.getD s_87 (Int.toNat s_98) (0 : UInt8))) : Int))).bind fun a_90 =>
        bif !a_90 then
          if (0 : Int) ≤ s_98 ∧ s_98 < (↑(List.length s_87) : Int) then
            (cellarerref05_Letter ((↑(UInt8.toNat (List.getD s_87 (Int.toNat s_98) (0 : UInt8))) : Int))).bind fun a_91 =>
              bif !a_91 then
                if (0 : Int) ≤ s_98 ∧ s_98 < (↑(List.length s_87) : Int) then
                  (cellarerref05_at (marks_88) ((↑(UInt8.toNat (List.getD s_87 (Int.toNat s_98) (0 : UInt8))) : Int)) (Bool.false)).bind fun a_92 =>
                    bif Decidable.decide (a_92 < (0 : Int)) then
                      some (Sum.inr (Sum.inl ()))
                    else
                      some (Sum.inl (IntKind.wrap IntKind.i64 (s_98 + (1 : Int))))
                else none
              else
                some (Sum.inl (IntKind.wrap IntKind.i64 (s_98 + (1 : Int))))
          else none
        else
          some (Sum.inl (IntKind.wrap IntKind.i64 (s_98 + (1 : Int))))
    else none
  else
    some (Sum.inr (Sum.inr ()))

noncomputable def cellarerref05_only (s_85 : List UInt8) (marks_86 : List UInt8) : Option (Bool) :=
  (iter (cellarerref05_only_b0 (s_85) (marks_86)) ((0 : Int))).bind (Sum.elim (fun t_93 =>
    some (Bool.false)) (fun t_94 =>
    some (Bool.true)))

def version_epoch_res (r : Int × Bool) : AV := (fun (r_116 : Int × Bool) => AV.tup [AV.int IntKind.i64 (Prod.fst r_116), AV.bool (Prod.snd r_116)]) r

def version_epoch_out (r : Int × Bool) : List AO := (fun (r_116 : Int × Bool) => []) r

noncomputable def version_epoch_b0 (s_104 : List UInt8) (t_106 : Int) (s_117 : Int × Int) : Option ((Int × Int) ⊕ (Unit ⊕ Int)) :=
  bif Decidable.decide (Prod.snd s_117 < t_106) then
    if (0 : Int) ≤ Prod.snd s_117 ∧ Prod.snd s_117 < (↑(List.length s_104) : Int) then
      (version_digit ((↑(UInt8.toNat (List.getD s_104 (Int.toNat (Prod.snd s_117)) (0 : UInt8))) : Int))).bind fun a_108 =>
        bif !a_108 then
          some (Sum.inr (Sum.inl ()))
        else
          if (0 : Int) ≤ Prod.snd s_117 ∧ Prod.snd s_117 < (↑(List.length s_104) : Int) then
            some (Sum.inl (IntKind.wrap IntKind.i64 (IntKind.wrap IntKind.i64 (Prod.fst s_117 * (10 : Int)) + IntKind.wrap IntKind.i64 (IntKind.wrap IntKind.u8 ((↑(UInt8.toNat (List.getD s_104 (Int.toNat (Prod.snd s_117)) (0 : UInt8))) : Int) - (48 : Int)))), IntKind.wrap IntKind.i64 (Prod.snd s_117 + (1 : Int))))
          else none
    else none
  else
    some (Sum.inr (Sum.inr (Prod.fst s_117)))

noncomputable def version_epoch (s_101 : List UInt8) : Option (Int × Bool) :=
  Option.bind (α := Unit ⊕ Unit) (
    bif Decidable.decide ((↑(List.length s_101) : Int) < (1 : Int)) then
      some (Sum.inl ())
    else
      bif Decidable.decide ((9 : Int) < (↑(List.length s_101) : Int)) then
        some (Sum.inl ())
      else
        some (Sum.inr ())) (Sum.elim (fun t_102 =>
    some ((0 : Int), Bool.false)) (fun t_103 =>
    (iter (version_epoch_b0 (s_101) ((↑(List.length s_101) : Int))) ((0 : Int), (0 : Int))).bind (Sum.elim (fun t_109 =>
      some ((0 : Int), Bool.false)) (fun t_111 =>
      some (t_111, Bool.true)))))

def strings_trimLeftByte_res (r : List UInt8) : AV := (fun (r_147 : List UInt8) => AV.str r_147) r

def strings_trimLeftByte_out (r : List UInt8) : List AO := (fun (r_147 : List UInt8) => []) r

noncomputable def strings_trimLeftByte_b0 (c_139 : Int) (s_148 : List UInt8) : Option ((List UInt8) ⊕ (List UInt8)) :=
  Option.bind (α := Unit ⊕ Unit) (
    bif Decidable.decide ((0 : Int) < (↑(List.length s_148) : Int)) then
      if (0 : Int) ≤ (0 : Int) ∧ (0 : Int) < (↑(List.length s_148) : Int) then
        bif Decidable.decide ((↑(UInt8.toNat (List.getD s_148 (Int.toNat (0 : Int)) (0 : UInt8))) : Int) = c_139) then
          some (Sum.inl ())
        else
          some (Sum.inr ())
      else none
    else
      some (Sum.inr ())) (Sum.elim (fun t_140 =>
    if (0 : Int) ≤ (1 : Int) ∧ (1 : Int) ≤ (↑(List.length s_148) : Int) ∧ (↑(List.length s_148) : Int) ≤ (↑(List.length s_148) : Int) then
      some (Sum.inl (List.drop (Int.toNat (1 : Int)) (List.take (Int.toNat (↑(List.length s_148) : Int)) s_148)))
    else none) (fun t_141 =>
    some (Sum.inr (s_148))))

noncomputable def strings_trimLeftByte (s_136 : List UInt8) (c_137 : Int) : Option (List UInt8) :=
  (iter (strings_trimLeftByte_b0 (c_137)) (s_136)).bind (fun t_144 =>
    some (t_144))

def strings_TrimLeft_res (r : List UInt8) : AV := (fun (r_174 : List UInt8) => AV.str r_174) r

def strings_TrimLeft_out (r : List UInt8) : List AO := (fun (r_174 : List UInt8) => []) r

noncomputable def strings_TrimLeft (s_165 : List UInt8) : Option (List UInt8) :=
  Option.bind (α := Unit ⊕ Unit) (
    bif Decidable.decide (s_165 = []) then
      some (Sum.inl ())
    else
      some (Sum.inr ())) (Sum.elim (fun t_166 =>
    some (s_165)) (fun t_167 =>
    Option.bind (α := List UInt8) (
      (strings_trimLeftByte (s_165) ((↑(UInt8.toNat (List.getD ((fun (x : List UInt8) => x) [(48 : UInt8)]) (Int.toNat (0 : Int)) (0 : UInt8))) : Int))).bind fun a_168 =>
        some (a_168)) (fun t_170 =>
      some (t_170))))

def version_number_res (r : List UInt8 × Int) : AV := (fun (r_179 : List UInt8 × Int) => AV.tup [AV.str (Prod.fst r_179), AV.int IntKind.i64 (Prod.snd r_179)]) r

def version_number_out (r : List UInt8 × Int) : List AO := (fun (r_179 : List UInt8 × Int) => []) r

noncomputable def version_number_b0 (s_123 : List UInt8) (s_180 : Int) : Option ((Int) ⊕ (Int)) :=
  Option.bind (α := Unit ⊕ Unit) (
    bif Decidable.decide (s_180 < (↑(List.length s_123) : Int)) then
      if (0 : Int) ≤ s_180 ∧ s_180 < (↑(List.length s_123) : Int) then
        (version_digit ((↑(UInt8.toNat (List.getD s_123 (Int.toNat s_180) (0 : UInt8))) : Int))).bind fun a_126 =>
          bif a_126 then
            some (Sum.inl ())
          else
            some (Sum.inr ())
      else none
    else
      some (Sum.inr ())) (Sum.elim (fun t_127 =>
    some (Sum.inl (IntKind.wrap IntKind.i64 (s_180 + (1 : Int))))) (fun t_128 =>
    some (Sum.inr (s_180))))

noncomputable def version_number (s_121 : List UInt8) (i_122 : Int) : Option (List UInt8 × Int) :=
  (iter (version_number_b0 (s_121)) (i_122)).bind (fun t_131 =>
    if (0 : Int) ≤ i_122 ∧ i_122 ≤ t_131 ∧ t_131 ≤ (↑(List.length s_121) : Int) then
      (strings_TrimLeft (List.drop (Int.toNat i_122) (List.take (Int.toNat t_131) s_121))).bind fun a_175 =>
        some (a_175, t_131)
    else none)

def version_weight_res (r : Int) : AV := (fun (r_189 : Int) => AV.int IntKind.i64 r_189) r

def version_weight_out (r : Int) : List AO := (fun (r_189 : Int) => []) r

noncomputable def version_weight (s_184 : List UInt8) (i_185 : Int) : Option (Int) :=
  bif Decidable.decide ((↑(List.length s_184) : Int) ≤ i_185) then
    some ((0 : Int))
  else
    if (0 : Int) ≤ i_185 ∧ i_185 < (↑(List.length s_184) : Int) then
      (version_digit ((↑(UInt8.toNat (List.getD s_184 (Int.toNat i_185) (0 : UInt8))) : Int))).bind fun a_186 =>
        bif a_186 then
          some ((0 : Int))
        else
          if (0 : Int) ≤ i_185 ∧ i_185 < (↑(List.length s_184) : Int) then
            bif Decidable.decide ((↑(UInt8.toNat (List.getD s_184 (Int.toNat i_185) (0 : UInt8))) : Int) = (126 : Int)) then
              some ((-1 : Int))
            else
              if (0 : Int) ≤ i_185 ∧ i_185 < (↑(List.length s_184) : Int) then
                (version_letter ((↑(UInt8.toNat (List.getD s_184 (Int.toNat i_185) (0 : UInt8))) : Int))).bind fun a_187 =>
                  bif a_187 then
                    if (0 : Int) ≤ i_185 ∧ i_185 < (↑(List.length s_184) : Int) then
                      some (IntKind.wrap IntKind.i64 (↑(UInt8.toNat (List.getD s_184 (Int.toNat i_185) (0 : UInt8))) : Int))
                    else none
                  else
                    if (0 : Int) ≤ i_185 ∧ i_185 < (↑(List.length s_184) : Int) then
                      some (IntKind.wrap IntKind.i64 (IntKind.wrap IntKind.i64 (↑(UInt8.toNat (List.getD s_184 (Int.toNat i_185) (0 : UInt8))) : Int) + (256 : Int)))
                    else none
              else none
          else none
    else none

def cellarerref05_piece_res (r : List UInt8 × List UInt8 × List UInt8) : AV := (fun (r_224 : List UInt8 × List UInt8 × List UInt8) => AV.tup [AV.str (Prod.fst r_224), AV.str (Prod.fst (Prod.snd r_224)), AV.str (Prod.snd (Prod.snd r_224))]) r

def cellarerref05_piece_out (r : List UInt8 × List UInt8 × List UInt8) : List AO := (fun (r_224 : List UInt8 × List UInt8 × List UInt8) => []) r

noncomputable def cellarerref05_piece_b0 (s_192 : List UInt8) (s_225 : Int) : Option ((Int) ⊕ (Int)) :=
  Option.bind (α := Unit ⊕ Unit) (
    bif Decidable.decide (s_225 < (↑(List.length s_192) : Int)) then
      if (0 : Int) ≤ s_225 ∧ s_225 < (↑(List.length s_192) : Int) then
        (cellarerref05_Digit ((↑(UInt8.toNat (List.getD s_192 (Int.toNat s_225) (0 : UInt8))) : Int))).bind fun a_194 =>
          bif !a_194 then
            some (Sum.inl ())
          else
            some (Sum.inr ())
      else none
    else
      some (Sum.inr ())) (Sum.elim (fun t_195 =>
    some (Sum.inl (IntKind.wrap IntKind.i64 (s_225 + (1 : Int))))) (fun t_196 =>
    some (Sum.inr (s_225))))

noncomputable def cellarerref05_piece_b1 (s_200 : List UInt8) (s_226 : Int) : Option ((Int) ⊕ (Int)) :=
  Option.bind (α := Unit ⊕ Unit) (
    bif Decidable.decide (s_226 < (↑(List.length s_200) : Int)) then
      if (0 : Int) ≤ s_226 ∧ s_226 < (↑(List.length s_200) : Int) then
        (cellarerref05_Digit ((↑(UInt8.toNat (List.getD s_200 (Int.toNat s_226) (0 : UInt8))) : Int))).bind fun a_203 =>
          bif a_203 then
            some (Sum.inl ())
          else
            some (Sum.inr ())
      else none
    else
      some (Sum.inr ())) (Sum.elim (fun t_204 =>
    some (Sum.inl (IntKind.wrap IntKind.i64 (s_226 + (1 : Int))))) (fun t_205 =>
    some (Sum.inr (s_226))))

noncomputable def cellarerref05_piece_b2  (s_227 : List UInt8) : Option ((List UInt8) ⊕ (List UInt8)) :=
  Option.bind (α := Unit ⊕ Unit) (
    bif Decidable.decide ((0 : Int) < (↑(List.length s_227) : Int)) then
      if (0 : Int) ≤ (0 : Int) ∧ (0 : Int) < (↑(List.length s_227) : Int) then
        bif Decidable.decide ((↑(UInt8.toNat (List.getD s_227 (Int.toNat (0 : Int)) (0 : UInt8))) : Int) = (48 : Int)) then
          some (Sum.inl ())
        else
          some (Sum.inr ())
      else none
    else
      some (Sum.inr ())) (Sum.elim (fun t_213 =>
    if (0 : Int) ≤ (1 : Int) ∧ (1 : Int) ≤ (↑(List.length s_227) : Int) ∧ (↑(List.length s_227) : Int) ≤ (↑(List.length s_227) : Int) then
      some (Sum.inl (List.drop (Int.toNat (1 : Int)) (List.take (Int.toNat (↑(List.length s_227) : Int)) s_227)))
    else none) (fun t_214 =>
    some (Sum.inr (s_227))))

noncomputable def cellarerref05_piece (s_191 : List UInt8) : Option (List UInt8 × List UInt8 × List UInt8) :=
  (iter (cellarerref05_piece_b0 (s_191)) ((0 : Int))).bind (fun t_199 =>
    (iter (cellarerref05_piece_b1 (s_191)) (t_199)).bind (fun t_208 =>
      if (0 : Int) ≤ t_199 ∧ t_199 ≤ t_208 ∧ t_208 ≤ (↑(List.length s_191) : Int) then
        (iter (cellarerref05_piece_b2 ) (List.drop (Int.toNat t_199) (List.take (Int.toNat t_208) s_191))).bind (fun t_217 =>
          if (0 : Int) ≤ (0 : Int) ∧ (0 : Int) ≤ t_199 ∧ t_199 ≤ (↑(List.length s_191) : Int) then
            if (0 : Int) ≤ t_208 ∧ t_208 ≤ (↑(List.length s_191) : Int) ∧ (↑(List.length s_191) : Int) ≤ (↑(List.length s_191) : Int) then
              some (List.drop (Int.toNat (0 : Int)) (List.take (Int.toNat t_199) s_191), t_217, List.drop (Int.toNat t_208) (List.take (Int.toNat (↑(List.length s_191) : Int)) s_191))
            else none
          else none)
      else none))

def cellarerref05_numbers_res (r : Int) : AV := (fun (r_236 : Int) => AV.int IntKind.i64 r_236) r

def cellarerref05_numbers_out (r : Int) : List AO := (fun (r_236 : Int) => []) r

noncomputable def cellarerref05_numbers (a_233 : List UInt8) (b_234 : List UInt8) : Option (Int) :=
  bif Decidable.decide ((↑(List.length a_233) : Int) < (↑(List.length b_234) : Int)) then
    some ((-1 : Int))
  else
    bif Decidable.decide ((↑(List.length a_233) : Int) = (↑(List.length b_234) : Int)) then
      bif Go.Op.bytesLess a_233 b_234 then
        some ((-1 : Int))
      else
        bif Decidable.decide (a_233 = b_234) then
          some ((0 : Int))
        else
          some ((1 : Int))
    else
      bif Decidable.decide (a_233 = b_234) then
        some ((0 : Int))
      else
        some ((1 : Int))

def cellarerref05_weight_res (r : Int) : AV := (fun (r_241 : Int) => AV.int IntKind.i64 r_241) r

def cellarerref05_weight_out (r : Int) : List AO := (fun (r_241 : Int) => []) r

noncomputable def cellarerref05_weight (c_238 : Int) : Option (Int) :=
  bif Decidable.decide (c_238 = (126 : Int)) then
    some ((-1 : Int))
  else
    (cellarerref05_Letter (c_238)).bind fun a_239 =>
      bif a_239 then
        some (IntKind.wrap IntKind.i64 c_238)
      else
        some (IntKind.wrap IntKind.i64 ((256 : Int) + IntKind.wrap IntKind.i64 c_238))

def cellarerref05_words_res (r : Int) : AV := (fun (r_265 : Int) => AV.int IntKind.i64 r_265) r

def cellarerref05_words_out (r : Int) : List AO := (fun (r_265 : Int) => []) r

noncomputable def cellarerref05_words_b0 (a_246 : List UInt8) (b_247 : List UInt8) (s_266 : Int) : Option ((Int) ⊕ (Int ⊕ Unit)) :=
  Option.bind (α := Unit ⊕ Unit) (
    bif Decidable.decide (s_266 < (↑(List.length a_246) : Int)) then
      some (Sum.inl ())
    else
      bif Decidable.decide (s_266 < (↑(List.length b_247) : Int)) then
        some (Sum.inl ())
      else
        some (Sum.inr ())) (Sum.elim (fun t_249 =>
    Option.bind (α := Int) (
      bif Decidable.decide (s_266 < (↑(List.length a_246) : Int)) then
        if (0 : Int) ≤ s_266 ∧ s_266 < (↑(List.length a_246) : Int) then
          (cellarerref05_weight ((↑(UInt8.toNat (List.getD a_246 (Int.toNat s_266) (0 : UInt8))) : Int))).bind fun a_250 =>
            some (a_250)
        else none
      else
        some ((0 : Int))) (fun t_252 =>
      Option.bind (α := Int) (
        bif Decidable.decide (s_266 < (↑(List.length b_247) : Int)) then
          if (0 : Int) ≤ s_266 ∧ s_266 < (↑(List.length b_247) : Int) then
            (cellarerref05_weight ((↑(UInt8.toNat (List.getD b_247 (Int.toNat s_266) (0 : UInt8))) : Int))).bind fun a_253 =>
              some (a_253)
          else none
        else
          some ((0 : Int))) (fun t_255 =>
        bif Decidable.decide (t_252 < t_255) then
          some (Sum.inr (Sum.inl ((-1 : Int))))
        else
          bif Decidable.decide (t_255 < t_252) then
            some (Sum.inr (Sum.inl ((1 : Int))))
          else
            some (Sum.inl (IntKind.wrap IntKind.i64 (s_266 + (1 : Int))))))) (fun t_258 =>
    some (Sum.inr (Sum.inr ()))))

noncomputable def cellarerref05_words (a_244 : List UInt8) (b_245 : List UInt8) : Option (Int) :=
  (iter (cellarerref05_words_b0 (a_244) (b_245)) ((0 : Int))).bind (Sum.elim (fun t_261 =>
    some (t_261)) (fun t_262 =>
    some ((0 : Int))))

def cmp_isNaN_int__res (r : Bool) : AV := (fun (r_291 : Bool) => AV.bool r_291) r

def cmp_isNaN_int__out (r : Bool) : List AO := (fun (r_291 : Bool) => []) r

noncomputable def cmp_isNaN_int_ (x_289 : Int) : Option (Bool) :=
  some (!Decidable.decide (x_289 = x_289))

def cmp_Compare_int__res (r : Int) : AV := (fun (r_295 : Int) => AV.int IntKind.i64 r_295) r

def cmp_Compare_int__out (r : Int) : List AO := (fun (r_295 : Int) => []) r

noncomputable def cmp_Compare_int_ (x_287 : Int) (y_288 : Int) : Option (Int) :=
  (cmp_isNaN_int_ (x_287)).bind fun a_292 =>
    (cmp_isNaN_int_ (y_288)).bind fun a_293 =>
      bif a_292 then
        bif a_293 then
          some ((0 : Int))
        else
          some ((-1 : Int))
      else
        bif a_293 then
          some ((1 : Int))
        else
          bif Decidable.decide (x_287 < y_288) then
            some ((-1 : Int))
          else
            bif Decidable.decide (y_288 < x_287) then
              some ((1 : Int))
            else
              some ((0 : Int))

def cmp_isNaN_string__res (r : Bool) : AV := (fun (r_311 : Bool) => AV.bool r_311) r

def cmp_isNaN_string__out (r : Bool) : List AO := (fun (r_311 : Bool) => []) r

noncomputable def cmp_isNaN_string_ (x_309 : List UInt8) : Option (Bool) :=
  some (!Decidable.decide (x_309 = x_309))

def cmp_Compare_string__res (r : Int) : AV := (fun (r_315 : Int) => AV.int IntKind.i64 r_315) r

def cmp_Compare_string__out (r : Int) : List AO := (fun (r_315 : Int) => []) r

noncomputable def cmp_Compare_string_ (x_307 : List UInt8) (y_308 : List UInt8) : Option (Int) :=
  (cmp_isNaN_string_ (x_307)).bind fun a_312 =>
    (cmp_isNaN_string_ (y_308)).bind fun a_313 =>
      bif a_312 then
        bif a_313 then
          some ((0 : Int))
        else
          some ((-1 : Int))
      else
        bif a_313 then
          some ((1 : Int))
        else
          bif Go.Op.bytesLess x_307 y_308 then
            some ((-1 : Int))
          else
            bif !(Go.Op.bytesLess x_307 y_308 || Decidable.decide (x_307 = y_308)) then
              some ((1 : Int))
            else
              some ((0 : Int))

def version_Order_res (r : Int) : AV := (fun (r_325 : Int) => AV.int IntKind.i64 r_325) r

def version_Order_out (r : Int) : List AO := (fun (r_325 : Int) => []) r

noncomputable def version_Order_b0 (a_277 : List UInt8) (b_278 : List UInt8) (s_327 : Int × Int) : Option ((Int × Int) ⊕ (Int ⊕ Int × Int)) :=
  Option.bind (α := Unit ⊕ Unit) (
    bif Decidable.decide (Prod.fst s_327 < (↑(List.length a_277) : Int)) then
      if (0 : Int) ≤ Prod.fst s_327 ∧ Prod.fst s_327 < (↑(List.length a_277) : Int) then
        (version_digit ((↑(UInt8.toNat (List.getD a_277 (Int.toNat (Prod.fst s_327)) (0 : UInt8))) : Int))).bind fun a_281 =>
          bif !a_281 then
            some (Sum.inl ())
          else
            bif Decidable.decide (Prod.snd s_327 < (↑(List.length b_278) : Int)) then
              if (0 : Int) ≤ Prod.snd s_327 ∧ Prod.snd s_327 < (↑(List.length b_278) : Int) then
                (version_digit ((↑(UInt8.toNat (List.getD b_278 (Int.toNat (Prod.snd s_327)) (0 : UInt8))) : Int))).bind fun a_282 =>
                  bif !a_282 then
                    some (Sum.inl ())
                  else
                    some (Sum.inr ())
              else none
            else
              some (Sum.inr ())
      else none
    else
      bif Decidable.decide (Prod.snd s_327 < (↑(List.length b_278) : Int)) then
        if (0 : Int) ≤ Prod.snd s_327 ∧ Prod.snd s_327 < (↑(List.length b_278) : Int) then
          (version_digit ((↑(UInt8.toNat (List.getD b_278 (Int.toNat (Prod.snd s_327)) (0 : UInt8))) : Int))).bind fun a_283 =>
            bif !a_283 then
              some (Sum.inl ())
            else
              some (Sum.inr ())
        else none
      else
        some (Sum.inr ())) (Sum.elim (fun t_284 =>
    (version_weight (a_277) (Prod.fst s_327)).bind fun a_285 =>
      (version_weight (b_278) (Prod.snd s_327)).bind fun a_286 =>
        (cmp_Compare_int_ (a_285) (a_286)).bind fun a_296 =>
          bif !Decidable.decide (a_296 = (0 : Int)) then
            some (Sum.inr (Sum.inl (a_296)))
          else
            some (Sum.inl (IntKind.wrap IntKind.i64 (Prod.fst s_327 + (1 : Int)), IntKind.wrap IntKind.i64 (Prod.snd s_327 + (1 : Int))))) (fun t_297 =>
    some (Sum.inr (Sum.inr (Prod.fst s_327, Prod.snd s_327)))))

noncomputable def version_Order_b1 (a_272 : List UInt8) (b_273 : List UInt8) (s_326 : Int × Int) : Option ((Int × Int) ⊕ (Int ⊕ Unit)) :=
  Option.bind (α := Unit ⊕ Unit) (
    bif Decidable.decide (Prod.fst s_326 < (↑(List.length a_272) : Int)) then
      some (Sum.inl ())
    else
      bif Decidable.decide (Prod.snd s_326 < (↑(List.length b_273) : Int)) then
        some (Sum.inl ())
      else
        some (Sum.inr ())) (Sum.elim (fun t_276 =>
    (iter (version_Order_b0 (a_272) (b_273)) (Prod.fst s_326, Prod.snd s_326)).bind (Sum.elim (fun t_300 =>
      some (Sum.inr (Sum.inl (t_300)))) (fun t_303 =>
      (version_number (a_272) (Prod.fst t_303)).bind fun a_304 =>
        (version_number (b_273) (Prod.snd t_303)).bind fun a_305 =>
          bif Decidable.decide (Prod.fst a_304 = Prod.fst a_305) then
            some (Sum.inl (Prod.snd a_304, Prod.snd a_305))
          else
            (cmp_Compare_int_ ((↑(List.length (Prod.fst a_304)) : Int)) ((↑(List.length (Prod.fst a_305)) : Int))).bind fun a_306 =>
              bif !Decidable.decide (a_306 = (0 : Int)) then
                some (Sum.inr (Sum.inl (a_306)))
              else
                (cmp_Compare_string_ (Prod.fst a_304) (Prod.fst a_305)).bind fun a_316 =>
                  some (Sum.inr (Sum.inl (a_316)))))) (fun t_318 =>
    some (Sum.inr (Sum.inr ()))))

noncomputable def version_Order (a_270 : List UInt8) (b_271 : List UInt8) : Option (Int) :=
  (iter (version_Order_b1 (a_270) (b_271)) ((0 : Int), (0 : Int))).bind (Sum.elim (fun t_321 =>
    some (t_321)) (fun t_322 =>
    some ((0 : Int))))

def cellarerref05_Order_res (r : Int) : AV := (fun (r_348 : Int) => AV.int IntKind.i64 r_348) r

def cellarerref05_Order_out (r : Int) : List AO := (fun (r_348 : Int) => []) r

noncomputable def cellarerref05_Order_b0  (s_349 : List UInt8 × List UInt8) : Option ((List UInt8 × List UInt8) ⊕ (Int ⊕ Unit)) :=
  Option.bind (α := Unit ⊕ Unit) (
    bif !Decidable.decide (Prod.fst s_349 = []) then
      some (Sum.inl ())
    else
      bif !Decidable.decide (Prod.snd s_349 = []) then
        some (Sum.inl ())
      else
        some (Sum.inr ())) (Sum.elim (fun t_336 =>
    (cellarerref05_piece (Prod.fst s_349)).bind fun a_337 =>
      (cellarerref05_piece (Prod.snd s_349)).bind fun a_338 =>
        (cellarerref05_words (Prod.fst a_337) (Prod.fst a_338)).bind fun a_339 =>
          bif !Decidable.decide (a_339 = (0 : Int)) then
            some (Sum.inr (Sum.inl (a_339)))
          else
            (cellarerref05_numbers (Prod.fst (Prod.snd a_337)) (Prod.fst (Prod.snd a_338))).bind fun a_340 =>
              bif !Decidable.decide (a_340 = (0 : Int)) then
                some (Sum.inr (Sum.inl (a_340)))
              else
                some (Sum.inl (Prod.snd (Prod.snd a_337), Prod.snd (Prod.snd a_338)))) (fun t_341 =>
    some (Sum.inr (Sum.inr ()))))

noncomputable def cellarerref05_Order (a_332 : List UInt8) (b_333 : List UInt8) : Option (Int) :=
  (iter (cellarerref05_Order_b0 ) (a_332, b_333)).bind (Sum.elim (fun t_344 =>
    some (t_344)) (fun t_345 =>
    some ((0 : Int))))

def version_Parse_res (r : Int × List UInt8 × List UInt8 × Int) : AV := (fun (r_373 : Int × List UInt8 × List UInt8 × Int) => AV.tup [AV.agg [AV.int IntKind.i64 (Prod.fst r_373), AV.str (Prod.fst (Prod.snd r_373)), AV.str (Prod.fst (Prod.snd (Prod.snd r_373)))], AV.int IntKind.i64 (Prod.snd (Prod.snd (Prod.snd r_373)))]) r

def version_Parse_out (r : Int × List UInt8 × List UInt8 × Int) : List AO := (fun (r_373 : Int × List UInt8 × List UInt8 × Int) => []) r

noncomputable def version_Parse (s_352 : List UInt8) : Option (Int × List UInt8 × List UInt8 × Int) :=
  bif Decidable.decide ((80 : Int) < (↑(List.length s_352) : Int)) then
    some ((0 : Int), [], [], (8 : Int))
  else
    Option.bind (α := Unit ⊕ List UInt8 × List UInt8 × Int) (
      (strings_IndexByte (s_352) ((58 : Int))).bind fun a_353 =>
        bif Decidable.decide ((0 : Int) ≤ a_353) then
          if (0 : Int) ≤ (0 : Int) ∧ (0 : Int) ≤ a_353 ∧ a_353 ≤ (↑(List.length s_352) : Int) then
            (version_epoch (List.drop (Int.toNat (0 : Int)) (List.take (Int.toNat a_353) s_352))).bind fun a_354 =>
              bif !Prod.snd a_354 then
                some (Sum.inl ())
              else
                if (0 : Int) ≤ IntKind.wrap IntKind.i64 (a_353 + (1 : Int)) ∧ IntKind.wrap IntKind.i64 (a_353 + (1 : Int)) ≤ (↑(List.length s_352) : Int) ∧ (↑(List.length s_352) : Int) ≤ (↑(List.length s_352) : Int) then
                  some (Sum.inr ([(46 : UInt8), (43 : UInt8), (45 : UInt8), (126 : UInt8), (58 : UInt8)], List.drop (Int.toNat (IntKind.wrap IntKind.i64 (a_353 + (1 : Int)))) (List.take (Int.toNat (↑(List.length s_352) : Int)) s_352), Prod.fst a_354))
                else none
          else none
        else
          some (Sum.inr ([(46 : UInt8), (43 : UInt8), (45 : UInt8), (126 : UInt8)], s_352, (0 : Int)))) (Sum.elim (fun t_355 =>
      some ((0 : Int), [], [], (2 : Int))) (fun t_359 =>
      Option.bind (α := List UInt8 × List UInt8) (
        (strings_LastIndexByte (Prod.fst (Prod.snd t_359)) ((45 : Int))).bind fun a_360 =>
          bif Decidable.decide ((0 : Int) ≤ a_360) then
            if (0 : Int) ≤ (0 : Int) ∧ (0 : Int) ≤ a_360 ∧ a_360 ≤ (↑(List.length (Prod.fst (Prod.snd t_359))) : Int) then
              if (0 : Int) ≤ IntKind.wrap IntKind.i64 (a_360 + (1 : Int)) ∧ IntKind.wrap IntKind.i64 (a_360 + (1 : Int)) ≤ (↑(List.length (Prod.fst (Prod.snd t_359))) : Int) ∧ (↑(List.length (Prod.fst (Prod.snd t_359))) : Int) ≤ (↑(List.length (Prod.fst (Prod.snd t_359))) : Int) then
                some (List.drop (Int.toNat (0 : Int)) (List.take (Int.toNat a_360) (Prod.fst (Prod.snd t_359))), List.drop (Int.toNat (IntKind.wrap IntKind.i64 (a_360 + (1 : Int)))) (List.take (Int.toNat (↑(List.length (Prod.fst (Prod.snd t_359))) : Int)) (Prod.fst (Prod.snd t_359))))
              else none
            else none
          else
            some (Prod.fst (Prod.snd t_359), [(48 : UInt8)])) (fun t_363 =>
        bif Decidable.decide (Prod.fst t_363 = []) then
          some ((0 : Int), [], [], (2 : Int))
        else
          if (0 : Int) ≤ (0 : Int) ∧ (0 : Int) < (↑(List.length (Prod.fst t_363)) : Int) then
            (version_digit ((↑(UInt8.toNat (List.getD (Prod.fst t_363) (Int.toNat (0 : Int)) (0 : UInt8))) : Int))).bind fun a_364 =>
              bif !a_364 then
                some ((0 : Int), [], [], (2 : Int))
              else
                (version_only (Prod.fst t_363) (Prod.fst t_359)).bind fun a_365 =>
                  bif !a_365 then
                    some ((0 : Int), [], [], (2 : Int))
                  else
                    bif Decidable.decide (Prod.snd t_363 = []) then
                      some ((0 : Int), [], [], (2 : Int))
                    else
                      (version_only (Prod.snd t_363) ([(46 : UInt8), (43 : UInt8), (126 : UInt8)])).bind fun a_366 =>
                        bif !a_366 then
                          some ((0 : Int), [], [], (2 : Int))
                        else
                          some (Prod.snd (Prod.snd t_359), Prod.fst t_363, Prod.snd t_363, (0 : Int))
          else none)))

def cellarerref05_Parse_res (r : Int × List UInt8 × List UInt8 × Int) : AV := (fun (r_417 : Int × List UInt8 × List UInt8 × Int) => AV.tup [AV.agg [AV.int IntKind.i64 (Prod.fst r_417), AV.str (Prod.fst (Prod.snd r_417)), AV.str (Prod.fst (Prod.snd (Prod.snd r_417)))], AV.int IntKind.i64 (Prod.snd (Prod.snd (Prod.snd r_417)))]) r

def cellarerref05_Parse_out (r : Int × List UInt8 × List UInt8 × Int) : List AO := (fun (r_417 : Int × List UInt8 × List UInt8 × Int) => []) r

noncomputable def cellarerref05_Parse_b0 (s_379 : List UInt8) (colon_380 : Int) (s_418 : Int × Int) : Option ((Int × Int) ⊕ (Unit ⊕ Int)) :=
  bif Decidable.decide (Prod.fst s_418 < colon_380) then
    if (0 : Int) ≤ Prod.fst s_418 ∧ Prod.fst s_418 < (↑(List.length s_379) : Int) then
      (cellarerref05_Digit ((↑(UInt8.toNat (List.getD s_379 (Int.toNat (Prod.fst s_418)) (0 : UInt8))) : Int))).bind fun a_393 =>
        bif !a_393 then
          some (Sum.inr (Sum.inl ()))
        else
          if (0 : Int) ≤ Prod.fst s_418 ∧ Prod.fst s_418 < (↑(List.length s_379) : Int) then
            some (Sum.inl (IntKind.wrap IntKind.i64 (Prod.fst s_418 + (1 : Int)), IntKind.wrap IntKind.i64 (IntKind.wrap IntKind.i64 (IntKind.wrap IntKind.i64 ((10 : Int) * Prod.snd s_418) + IntKind.wrap IntKind.i64 (↑(UInt8.toNat (List.getD s_379 (Int.toNat (Prod.fst s_418)) (0 : UInt8))) : Int)) - (48 : Int))))
          else none
    else none
  else
    some (Sum.inr (Sum.inr (Prod.snd s_418)))

noncomputable def cellarerref05_Parse (s_375 : List UInt8) : Option (Int × List UInt8 × List UInt8 × Int) :=
  bif Decidable.decide ((80 : Int) < (↑(List.length s_375) : Int)) then
    some ((0 : Int), [], [], (8 : Int))
  else
    (cellarerref05_at (s_375) ((58 : Int)) (Bool.false)).bind fun a_376 =>
      Option.bind (α := Unit ⊕ List UInt8 × List UInt8 × Int) (
        bif Decidable.decide ((0 : Int) ≤ a_376) then
          if (0 : Int) ≤ IntKind.wrap IntKind.i64 (a_376 + (1 : Int)) ∧ IntKind.wrap IntKind.i64 (a_376 + (1 : Int)) ≤ (↑(List.length s_375) : Int) ∧ (↑(List.length s_375) : Int) ≤ (↑(List.length s_375) : Int) then
            Option.bind (α := Unit ⊕ Unit) (
              bif Decidable.decide (a_376 < (1 : Int)) then
                some (Sum.inl ())
              else
                bif Decidable.decide ((9 : Int) < a_376) then
                  some (Sum.inl ())
                else
                  some (Sum.inr ())) (Sum.elim (fun t_377 =>
              some (Sum.inl ())) (fun t_378 =>
              (iter (cellarerref05_Parse_b0 (s_375) (a_376)) ((0 : Int), (0 : Int))).bind (Sum.elim (fun t_394 =>
                some (Sum.inl ())) (fun t_396 =>
                some (Sum.inr ([(46 : UInt8), (43 : UInt8), (45 : UInt8), (126 : UInt8), (58 : UInt8)], List.drop (Int.toNat (IntKind.wrap IntKind.i64 (a_376 + (1 : Int)))) (List.take (Int.toNat (↑(List.length s_375) : Int)) s_375), t_396))))))
          else none
        else
          some (Sum.inr ([(46 : UInt8), (43 : UInt8), (45 : UInt8), (126 : UInt8)], s_375, (0 : Int)))) (Sum.elim (fun t_399 =>
        some ((0 : Int), [], [], (2 : Int))) (fun t_403 =>
        (cellarerref05_at (Prod.fst (Prod.snd t_403)) ((45 : Int)) (Bool.true)).bind fun a_404 =>
          Option.bind (α := List UInt8 × List UInt8) (
            bif Decidable.decide ((0 : Int) ≤ a_404) then
              if (0 : Int) ≤ (0 : Int) ∧ (0 : Int) ≤ a_404 ∧ a_404 ≤ (↑(List.length (Prod.fst (Prod.snd t_403))) : Int) then
                if (0 : Int) ≤ IntKind.wrap IntKind.i64 (a_404 + (1 : Int)) ∧ IntKind.wrap IntKind.i64 (a_404 + (1 : Int)) ≤ (↑(List.length (Prod.fst (Prod.snd t_403))) : Int) ∧ (↑(List.length (Prod.fst (Prod.snd t_403))) : Int) ≤ (↑(List.length (Prod.fst (Prod.snd t_403))) : Int) then
                  some (List.drop (Int.toNat (0 : Int)) (List.take (Int.toNat a_404) (Prod.fst (Prod.snd t_403))), List.drop (Int.toNat (IntKind.wrap IntKind.i64 (a_404 + (1 : Int)))) (List.take (Int.toNat (↑(List.length (Prod.fst (Prod.snd t_403))) : Int)) (Prod.fst (Prod.snd t_403))))
                else none
              else none
            else
              some (Prod.fst (Prod.snd t_403), [(48 : UInt8)])) (fun t_407 =>
            bif Decidable.decide (Prod.fst t_407 = []) then
              some ((0 : Int), [], [], (2 : Int))
            else
              if (0 : Int) ≤ (0 : Int) ∧ (0 : Int) < (↑(List.length (Prod.fst t_407)) : Int) then
                (cellarerref05_Digit ((↑(UInt8.toNat (List.getD (Prod.fst t_407) (Int.toNat (0 : Int)) (0 : UInt8))) : Int))).bind fun a_408 =>
                  bif !a_408 then
                    some ((0 : Int), [], [], (2 : Int))
                  else
                    (cellarerref05_only (Prod.fst t_407) (Prod.fst t_403)).bind fun a_409 =>
                      bif !a_409 then
                        some ((0 : Int), [], [], (2 : Int))
                      else
                        bif Decidable.decide (Prod.snd t_407 = []) then
                          some ((0 : Int), [], [], (2 : Int))
                        else
                          (cellarerref05_only (Prod.snd t_407) ([(46 : UInt8), (43 : UInt8), (126 : UInt8)])).bind fun a_410 =>
                            bif !a_410 then
                              some ((0 : Int), [], [], (2 : Int))
                            else
                              some (Prod.snd (Prod.snd t_403), Prod.fst t_407, Prod.snd t_407, (0 : Int))
              else none)))

def version_parsed_res (r : Int × List UInt8 × List UInt8) : AV := (fun (r_429 : Int × List UInt8 × List UInt8) => AV.agg [AV.int IntKind.i64 (Prod.fst r_429), AV.str (Prod.fst (Prod.snd r_429)), AV.str (Prod.snd (Prod.snd r_429))]) r

def version_parsed_out (r : Int × List UInt8 × List UInt8) : List AO := (fun (r_429 : Int × List UInt8 × List UInt8) => []) r

noncomputable def version_parsed (s_424 : List UInt8) : Option (Int × List UInt8 × List UInt8) :=
  (version_Parse (s_424)).bind fun a_425 =>
    bif !Decidable.decide (Prod.snd (Prod.snd (Prod.snd a_425)) = (0 : Int)) then
      some ((0 : Int), s_424, [(48 : UInt8)])
    else
      some (Prod.fst a_425, Prod.fst (Prod.snd a_425), Prod.fst (Prod.snd (Prod.snd a_425)))

def version_Compare_res (r : Int) : AV := (fun (r_436 : Int) => AV.int IntKind.i64 r_436) r

def version_Compare_out (r : Int) : List AO := (fun (r_436 : Int) => []) r

noncomputable def version_Compare (a_422 : List UInt8) (b_423 : List UInt8) : Option (Int) :=
  (version_parsed (a_422)).bind fun a_430 =>
    (version_parsed (b_423)).bind fun a_431 =>
      (cmp_Compare_int_ (Prod.fst a_430) (Prod.fst a_431)).bind fun a_432 =>
        bif !Decidable.decide (a_432 = (0 : Int)) then
          some (a_432)
        else
          (version_Order (Prod.fst (Prod.snd a_430)) (Prod.fst (Prod.snd a_431))).bind fun a_433 =>
            bif !Decidable.decide (a_433 = (0 : Int)) then
              some (a_433)
            else
              (version_Order (Prod.snd (Prod.snd a_430)) (Prod.snd (Prod.snd a_431))).bind fun a_434 =>
                some (a_434)

def cellarerref05_Compare_res (r : Int) : AV := (fun (r_456 : Int) => AV.int IntKind.i64 r_456) r

def cellarerref05_Compare_out (r : Int) : List AO := (fun (r_456 : Int) => []) r

noncomputable def cellarerref05_Compare (a_439 : List UInt8) (b_440 : List UInt8) : Option (Int) :=
  (cellarerref05_Parse (a_439)).bind fun a_441 =>
    Option.bind (α := Int × List UInt8 × List UInt8) (
      bif !Decidable.decide (Prod.snd (Prod.snd (Prod.snd a_441)) = (0 : Int)) then
        some ((0 : Int), a_439, [(48 : UInt8)])
      else
        some (Prod.fst a_441, Prod.fst (Prod.snd a_441), Prod.fst (Prod.snd (Prod.snd a_441)))) (fun t_445 =>
      (cellarerref05_Parse (b_440)).bind fun a_446 =>
        Option.bind (α := Int × List UInt8 × List UInt8) (
          bif !Decidable.decide (Prod.snd (Prod.snd (Prod.snd a_446)) = (0 : Int)) then
            some ((0 : Int), b_440, [(48 : UInt8)])
          else
            some (Prod.fst a_446, Prod.fst (Prod.snd a_446), Prod.fst (Prod.snd (Prod.snd a_446)))) (fun t_450 =>
          bif Decidable.decide (Prod.fst t_445 < Prod.fst t_450) then
            some ((-1 : Int))
          else
            bif Decidable.decide (Prod.fst t_450 < Prod.fst t_445) then
              some ((1 : Int))
            else
              (cellarerref05_Order (Prod.fst (Prod.snd t_445)) (Prod.fst (Prod.snd t_450))).bind fun a_451 =>
                bif !Decidable.decide (a_451 = (0 : Int)) then
                  some (a_451)
                else
                  (cellarerref05_Order (Prod.snd (Prod.snd t_445)) (Prod.snd (Prod.snd t_450))).bind fun a_452 =>
                    some (a_452)))

def version_Holds_res (r : Bool) : AV := (fun (r_465 : Bool) => AV.bool r_465) r

def version_Holds_out (r : Bool) : List AO := (fun (r_465 : Bool) => []) r

noncomputable def version_Holds (v_460 : List UInt8) (op_461 : List UInt8) (other_462 : List UInt8) : Option (Bool) :=
  (version_Compare (v_460) (other_462)).bind fun a_463 =>
    bif Decidable.decide (op_461 = [(60 : UInt8), (60 : UInt8)]) then
      some (Decidable.decide (a_463 < (0 : Int)))
    else
      bif Decidable.decide (op_461 = [(60 : UInt8), (61 : UInt8)]) then
        some (Decidable.decide (a_463 ≤ (0 : Int)))
      else
        bif Decidable.decide (op_461 = [(61 : UInt8)]) then
          some (Decidable.decide (a_463 = (0 : Int)))
        else
          bif Decidable.decide (op_461 = [(62 : UInt8), (61 : UInt8)]) then
            some (Decidable.decide ((0 : Int) ≤ a_463))
          else
            bif Decidable.decide (op_461 = [(62 : UInt8), (62 : UInt8)]) then
              some (Decidable.decide ((0 : Int) < a_463))
            else
              some (Decidable.decide (op_461 = []))

def cellarerref05_Holds_res (r : Bool) : AV := (fun (r_474 : Bool) => AV.bool r_474) r

def cellarerref05_Holds_out (r : Bool) : List AO := (fun (r_474 : Bool) => []) r

noncomputable def cellarerref05_Holds (v_469 : List UInt8) (op_470 : List UInt8) (other_471 : List UInt8) : Option (Bool) :=
  (cellarerref05_Compare (v_469) (other_471)).bind fun a_472 =>
    bif Decidable.decide (op_470 = []) then
      some (Bool.true)
    else
      bif Decidable.decide (op_470 = [(60 : UInt8), (60 : UInt8)]) then
        bif Decidable.decide (a_472 < (0 : Int)) then
          some (Bool.true)
        else
          bif Decidable.decide (op_470 = [(60 : UInt8), (61 : UInt8)]) then
            bif Decidable.decide (a_472 ≤ (0 : Int)) then
              some (Bool.true)
            else
              bif Decidable.decide (op_470 = [(61 : UInt8)]) then
                bif Decidable.decide (a_472 = (0 : Int)) then
                  some (Bool.true)
                else
                  bif Decidable.decide (op_470 = [(62 : UInt8), (61 : UInt8)]) then
                    bif Decidable.decide ((0 : Int) ≤ a_472) then
                      some (Bool.true)
                    else
                      bif Decidable.decide (op_470 = [(62 : UInt8), (62 : UInt8)]) then
                        some (Decidable.decide ((0 : Int) < a_472))
                      else
                        some (Bool.false)
                  else
                    bif Decidable.decide (op_470 = [(62 : UInt8), (62 : UInt8)]) then
                      some (Decidable.decide ((0 : Int) < a_472))
                    else
                      some (Bool.false)
              else
                bif Decidable.decide (op_470 = [(62 : UInt8), (61 : UInt8)]) then
                  bif Decidable.decide ((0 : Int) ≤ a_472) then
                    some (Bool.true)
                  else
                    bif Decidable.decide (op_470 = [(62 : UInt8), (62 : UInt8)]) then
                      some (Decidable.decide ((0 : Int) < a_472))
                    else
                      some (Bool.false)
                else
                  bif Decidable.decide (op_470 = [(62 : UInt8), (62 : UInt8)]) then
                    some (Decidable.decide ((0 : Int) < a_472))
                  else
                    some (Bool.false)
          else
            bif Decidable.decide (op_470 = [(61 : UInt8)]) then
              bif Decidable.decide (a_472 = (0 : Int)) then
                some (Bool.true)
              else
                bif Decidable.decide (op_470 = [(62 : UInt8), (61 : UInt8)]) then
                  bif Decidable.decide ((0 : Int) ≤ a_472) then
                    some (Bool.true)
                  else
                    bif Decidable.decide (op_470 = [(62 : UInt8), (62 : UInt8)]) then
                      some (Decidable.decide ((0 : Int) < a_472))
                    else
                      some (Bool.false)
                else
                  bif Decidable.decide (op_470 = [(62 : UInt8), (62 : UInt8)]) then
                    some (Decidable.decide ((0 : Int) < a_472))
                  else
                    some (Bool.false)
            else
              bif Decidable.decide (op_470 = [(62 : UInt8), (61 : UInt8)]) then
                bif Decidable.decide ((0 : Int) ≤ a_472) then
                  some (Bool.true)
                else
                  bif Decidable.decide (op_470 = [(62 : UInt8), (62 : UInt8)]) then
                    some (Decidable.decide ((0 : Int) < a_472))
                  else
                    some (Bool.false)
              else
                bif Decidable.decide (op_470 = [(62 : UInt8), (62 : UInt8)]) then
                  some (Decidable.decide ((0 : Int) < a_472))
                else
                  some (Bool.false)
      else
        bif Decidable.decide (op_470 = [(60 : UInt8), (61 : UInt8)]) then
          bif Decidable.decide (a_472 ≤ (0 : Int)) then
            some (Bool.true)
          else
            bif Decidable.decide (op_470 = [(61 : UInt8)]) then
              bif Decidable.decide (a_472 = (0 : Int)) then
                some (Bool.true)
              else
                bif Decidable.decide (op_470 = [(62 : UInt8), (61 : UInt8)]) then
                  bif Decidable.decide ((0 : Int) ≤ a_472) then
                    some (Bool.true)
                  else
                    bif Decidable.decide (op_470 = [(62 : UInt8), (62 : UInt8)]) then
                      some (Decidable.decide ((0 : Int) < a_472))
                    else
                      some (Bool.false)
                else
                  bif Decidable.decide (op_470 = [(62 : UInt8), (62 : UInt8)]) then
                    some (Decidable.decide ((0 : Int) < a_472))
                  else
                    some (Bool.false)
            else
              bif Decidable.decide (op_470 = [(62 : UInt8), (61 : UInt8)]) then
                bif Decidable.decide ((0 : Int) ≤ a_472) then
                  some (Bool.true)
                else
                  bif Decidable.decide (op_470 = [(62 : UInt8), (62 : UInt8)]) then
                    some (Decidable.decide ((0 : Int) < a_472))
                  else
                    some (Bool.false)
              else
                bif Decidable.decide (op_470 = [(62 : UInt8), (62 : UInt8)]) then
                  some (Decidable.decide ((0 : Int) < a_472))
                else
                  some (Bool.false)
        else
          bif Decidable.decide (op_470 = [(61 : UInt8)]) then
            bif Decidable.decide (a_472 = (0 : Int)) then
              some (Bool.true)
            else
              bif Decidable.decide (op_470 = [(62 : UInt8), (61 : UInt8)]) then
                bif Decidable.decide ((0 : Int) ≤ a_472) then
                  some (Bool.true)
                else
                  bif Decidable.decide (op_470 = [(62 : UInt8), (62 : UInt8)]) then
                    some (Decidable.decide ((0 : Int) < a_472))
                  else
                    some (Bool.false)
              else
                bif Decidable.decide (op_470 = [(62 : UInt8), (62 : UInt8)]) then
                  some (Decidable.decide ((0 : Int) < a_472))
                else
                  some (Bool.false)
          else
            bif Decidable.decide (op_470 = [(62 : UInt8), (61 : UInt8)]) then
              bif Decidable.decide ((0 : Int) ≤ a_472) then
                some (Bool.true)
              else
                bif Decidable.decide (op_470 = [(62 : UInt8), (62 : UInt8)]) then
                  some (Decidable.decide ((0 : Int) < a_472))
                else
                  some (Bool.false)
            else
              bif Decidable.decide (op_470 = [(62 : UInt8), (62 : UInt8)]) then
                some (Decidable.decide ((0 : Int) < a_472))
              else
                some (Bool.false)

def cellarerref02_Name_res (r : Bool) : AV := (fun (r_492 : Bool) => AV.bool r_492) r

def cellarerref02_Name_out (r : Bool) : List AO := (fun (r_492 : Bool) => []) r

noncomputable def cellarerref02_Name_b0 (s_477 : List UInt8) (s_493 : Int) : Option ((Int) ⊕ (Unit ⊕ Unit)) :=
  bif Decidable.decide (s_493 < (↑(List.length s_477) : Int)) then
    if (0 : Int) ≤ s_493 ∧ s_493 < (↑(List.length s_477) : Int) then
      Option.bind (α := Bool) (
        bif Decidable.decide ((97 : Int) ≤ (↑(UInt8.toNat (List.getD s_477 (Int.toNat s_493) (0 : UInt8))) : Int)) then
          some (Decidable.decide ((↑(UInt8.toNat (List.getD s_477 (Int.toNat s_493) (0 : UInt8))) : Int) ≤ (122 : Int)))
        else
          some (Bool.false)) (fun t_480 =>
        Option.bind (α := Bool) (
          bif Decidable.decide ((48 : Int) ≤ (↑(UInt8.toNat (List.getD s_477 (Int.toNat s_493) (0 : UInt8))) : Int)) then
            some (Decidable.decide ((↑(UInt8.toNat (List.getD s_477 (Int.toNat s_493) (0 : UInt8))) : Int) ≤ (57 : Int)))
          else
            some (Bool.false)) (fun t_482 =>
          Option.bind (α := Bool) (
            bif Decidable.decide ((↑(UInt8.toNat (List.getD s_477 (Int.toNat s_493) (0 : UInt8))) : Int) = (43 : Int)) then
              some (Bool.true)
            else
              bif Decidable.decide ((↑(UInt8.toNat (List.getD s_477 (Int.toNat s_493) (0 : UInt8))) : Int) = (45 : Int)) then
                some (Bool.true)
              else
                some (Decidable.decide ((↑(UInt8.toNat (List.getD s_477 (Int.toNat s_493) (0 : UInt8))) : Int) = (46 : Int)))) (fun t_484 =>
            bif !t_480 then
              bif !t_482 then
                bif !t_484 then
                  some (Sum.inr (Sum.inl ()))
                else
                  bif t_484 then
                    bif Decidable.decide (s_493 = (0 : Int)) then
                      some (Sum.inr (Sum.inl ()))
                    else
                      some (Sum.inl (IntKind.wrap IntKind.i64 (s_493 + (1 : Int))))
                  else
                    some (Sum.inl (IntKind.wrap IntKind.i64 (s_493 + (1 : Int))))
              else
                bif t_484 then
                  bif Decidable.decide (s_493 = (0 : Int)) then
                    some (Sum.inr (Sum.inl ()))
                  else
                    some (Sum.inl (IntKind.wrap IntKind.i64 (s_493 + (1 : Int))))
                else
                  some (Sum.inl (IntKind.wrap IntKind.i64 (s_493 + (1 : Int))))
            else
              bif t_484 then
                bif Decidable.decide (s_493 = (0 : Int)) then
                  some (Sum.inr (Sum.inl ()))
                else
                  some (Sum.inl (IntKind.wrap IntKind.i64 (s_493 + (1 : Int))))
              else
                some (Sum.inl (IntKind.wrap IntKind.i64 (s_493 + (1 : Int)))))))
    else none
  else
    some (Sum.inr (Sum.inr ()))

noncomputable def cellarerref02_Name (s_476 : List UInt8) : Option (Bool) :=
  (iter (cellarerref02_Name_b0 (s_476)) ((0 : Int))).bind (Sum.elim (fun t_488 =>
    some (Bool.false)) (fun t_489 =>
    bif Decidable.decide ((1 : Int) ≤ (↑(List.length s_476) : Int)) then
      some (Decidable.decide ((↑(List.length s_476) : Int) ≤ (60 : Int)))
    else
      some (Bool.false)))

def cellarerref07_Right_res (r : Bool) : AV := (fun (r_502 : Bool) => AV.bool r_502) r

def cellarerref07_Right_out (r : Bool) : List AO := (fun (r_502 : Bool) => []) r

noncomputable def cellarerref07_Right (x_496 : List UInt8) (x_497 : List UInt8) (x_498 : List UInt8) : Option (Bool) :=
  (cellarerref02_Name (x_496)).bind fun a_499 =>
    bif !a_499 then
      some (Bool.false)
    else
      bif Decidable.decide (x_497 = []) then
        some (Decidable.decide (x_498 = []))
      else
        (cellarerref05_Parse (x_498)).bind fun a_500 =>
          bif Decidable.decide (x_497 = [(60 : UInt8), (60 : UInt8)]) then
            some (Decidable.decide (Prod.snd (Prod.snd (Prod.snd a_500)) = (0 : Int)))
          else
            bif Decidable.decide (x_497 = [(60 : UInt8), (61 : UInt8)]) then
              some (Decidable.decide (Prod.snd (Prod.snd (Prod.snd a_500)) = (0 : Int)))
            else
              bif Decidable.decide (x_497 = [(61 : UInt8)]) then
                some (Decidable.decide (Prod.snd (Prod.snd (Prod.snd a_500)) = (0 : Int)))
              else
                bif Decidable.decide (x_497 = [(62 : UInt8), (61 : UInt8)]) then
                  some (Decidable.decide (Prod.snd (Prod.snd (Prod.snd a_500)) = (0 : Int)))
                else
                  bif Decidable.decide (x_497 = [(62 : UInt8), (62 : UInt8)]) then
                    some (Decidable.decide (Prod.snd (Prod.snd (Prod.snd a_500)) = (0 : Int)))
                  else
                    some (Bool.false)

def cellarerref07_Text_res (r : List UInt8) : AV := (fun (r_508 : List UInt8) => AV.str r_508) r

def cellarerref07_Text_out (r : List UInt8) : List AO := (fun (r_508 : List UInt8) => []) r

noncomputable def cellarerref07_Text (x_504 : List UInt8) (x_505 : List UInt8) (x_506 : List UInt8) : Option (List UInt8) :=
  bif Decidable.decide (x_505 = []) then
    some (x_504)
  else
    if List.length x_504 + List.length ((fun (x : List UInt8) => x) [(32 : UInt8), (40 : UInt8)]) ≤ (140737488355328 : Nat) then
      if List.length (x_504 ++ [(32 : UInt8), (40 : UInt8)]) + List.length x_505 ≤ (140737488355328 : Nat) then
        if List.length (x_504 ++ [(32 : UInt8), (40 : UInt8)] ++ x_505) + List.length ((fun (x : List UInt8) => x) [(32 : UInt8)]) ≤ (140737488355328 : Nat) then
          if List.length (x_504 ++ [(32 : UInt8), (40 : UInt8)] ++ x_505 ++ [(32 : UInt8)]) + List.length x_506 ≤ (140737488355328 : Nat) then
            if List.length (x_504 ++ [(32 : UInt8), (40 : UInt8)] ++ x_505 ++ [(32 : UInt8)] ++ x_506) + List.length ((fun (x : List UInt8) => x) [(41 : UInt8)]) ≤ (140737488355328 : Nat) then
              some (x_504 ++ [(32 : UInt8), (40 : UInt8)] ++ x_505 ++ [(32 : UInt8)] ++ x_506 ++ [(41 : UInt8)])
            else none
          else none
        else none
      else none
    else none

def cellarerref06_Join_res (r : List UInt8) : AV := (fun (r_524 : List UInt8) => AV.str r_524) r

def cellarerref06_Join_out (r : List UInt8) : List AO := (fun (r_524 : List UInt8) => []) r

noncomputable def cellarerref06_Join_b0 (l_513 : List (List UInt8)) (between_514 : List UInt8) (s_525 : List UInt8 × Int) : Option ((List UInt8 × Int) ⊕ (List UInt8)) :=
  bif Decidable.decide (Prod.snd s_525 < (↑(List.length l_513) : Int)) then
    Option.bind (α := List UInt8) (
      bif Decidable.decide ((0 : Int) < Prod.snd s_525) then
        if List.length (Prod.fst s_525) + List.length between_514 ≤ (140737488355328 : Nat) then
          some (Prod.fst s_525 ++ between_514)
        else none
      else
        some (Prod.fst s_525)) (fun t_518 =>
      if (0 : Int) ≤ Prod.snd s_525 ∧ Prod.snd s_525 < (↑(List.length l_513) : Int) then
        if List.length t_518 + List.length (List.getD l_513 (Int.toNat (Prod.snd s_525)) []) ≤ (140737488355328 : Nat) then
          some (Sum.inl (t_518 ++ List.getD l_513 (Int.toNat (Prod.snd s_525)) [], IntKind.wrap IntKind.i64 (Prod.snd s_525 + (1 : Int))))
        else none
      else none)
  else
    some (Sum.inr (Prod.fst s_525))

noncomputable def cellarerref06_Join (l_511 : List (List UInt8)) (between_512 : List UInt8) : Option (List UInt8) :=
  (iter (cellarerref06_Join_b0 (l_511) (between_512)) ([], (0 : Int))).bind (fun t_521 =>
    some (t_521))

def cellarerref07_Fits_res (r : Bool) : AV := (fun (r_537 : Bool) => AV.bool r_537) r

def cellarerref07_Fits_out (r : Bool) : List AO := (fun (r_537 : Bool) => []) r

noncomputable def cellarerref07_Fits (x_530 : List UInt8) (x_531 : List UInt8) (x_532 : List UInt8) (name_533 : List UInt8) (v_534 : List UInt8) : Option (Bool) :=
  bif Decidable.decide (x_530 = name_533) then
    (cellarerref05_Holds (v_534) (x_531) (x_532)).bind fun a_535 =>
      some (a_535)
  else
    some (Bool.false)

def relation_Fits_res (r : Bool) : AV := (fun (r_548 : Bool) => AV.bool r_548) r

def relation_Fits_out (r : Bool) : List AO := (fun (r_548 : Bool) => []) r

noncomputable def relation_Fits (x_541 : List UInt8) (x_542 : List UInt8) (x_543 : List UInt8) (name_544 : List UInt8) (v_545 : List UInt8) : Option (Bool) :=
  bif Decidable.decide (x_541 = name_544) then
    (version_Holds (v_545) (x_542) (x_543)).bind fun a_546 =>
      some (a_546)
  else
    some (Bool.false)

def relation_met_res (r : Bool) : AV := (fun (r_575 : Bool) => AV.bool r_575) r

def relation_met_out (r : Bool) : List AO := (fun (r_575 : Bool) => []) r

noncomputable def relation_met_b0 (t_561 : List (List UInt8 × List UInt8 × List UInt8)) (t_562 : Int) (o0_564 : List UInt8) (o0_565 : List UInt8) (o0_566 : List UInt8) (s_577 : Int) : Option ((Int) ⊕ (Unit ⊕ Unit)) :=
  bif Decidable.decide (s_577 < t_562) then
    if (0 : Int) ≤ s_577 ∧ s_577 < (↑(List.length t_561) : Int) then
      (relation_Fits (o0_564) (o0_565) (o0_566) (Prod.fst (List.getD t_561 (Int.toNat s_577) ([], [], []))) (Prod.snd (Prod.snd (List.getD t_561 (Int.toNat s_577) ([], [], []))))).bind fun a_567 =>
        bif a_567 then
          some (Sum.inr (Sum.inl ()))
        else
          some (Sum.inl (IntKind.wrap IntKind.i64 (s_577 + (1 : Int))))
    else none
  else
    some (Sum.inr (Sum.inr ()))

noncomputable def relation_met_b1 (there_553 : List (List UInt8 × List UInt8 × List UInt8)) (t_554 : List (List UInt8 × List UInt8 × List UInt8)) (t_555 : Int) (s_576 : Int) : Option ((Int) ⊕ (Unit ⊕ Unit)) :=
  bif Decidable.decide (s_576 < t_555) then
    if (0 : Int) ≤ s_576 ∧ s_576 < (↑(List.length t_554) : Int) then
      (iter (relation_met_b0 (there_553) ((↑(List.length there_553) : Int)) (Prod.fst (List.getD t_554 (Int.toNat s_576) ([], [], []))) (Prod.fst (Prod.snd (List.getD t_554 (Int.toNat s_576) ([], [], [])))) (Prod.snd (Prod.snd (List.getD t_554 (Int.toNat s_576) ([], [], []))))) ((0 : Int))).bind (Sum.elim (fun t_568 =>
        some (Sum.inr (Sum.inl ()))) (fun t_569 =>
        some (Sum.inl (IntKind.wrap IntKind.i64 (s_576 + (1 : Int))))))
    else none
  else
    some (Sum.inr (Sum.inr ()))

noncomputable def relation_met (g_551 : List (List UInt8 × List UInt8 × List UInt8)) (there_552 : List (List UInt8 × List UInt8 × List UInt8)) : Option (Bool) :=
  (iter (relation_met_b1 (there_552) (g_551) ((↑(List.length g_551) : Int))) ((0 : Int))).bind (Sum.elim (fun t_571 =>
    some (Bool.true)) (fun t_572 =>
    some (Bool.false)))

def relation_Lacks_res (r : List Int) : AV := (fun (r_599 : List Int) => AV.view (0 : Nat) (0 : Nat) Option.none) r

def relation_Lacks_out (r : List Int) : List AO := (fun (r_599 : List Int) => [AO.row (Ty.int IntKind.i64) r_599]) r

noncomputable def relation_Lacks_b0 (there_589 : List (List UInt8 × List UInt8 × List UInt8)) (t_590 : List (List (List UInt8 × List UInt8 × List UInt8))) (t_591 : Int) (s_600 : Int × List Int) : Option ((Int × List Int) ⊕ (List Int)) :=
  bif Decidable.decide (Prod.fst s_600 < t_591) then
    if (0 : Int) ≤ Prod.fst s_600 ∧ Prod.fst s_600 < (↑(List.length t_590) : Int) then
      (relation_met (List.getD t_590 (Int.toNat (Prod.fst s_600)) []) (there_589)).bind fun a_594 =>
        bif !a_594 then
          if (List.length (Prod.snd s_600) + List.length ((fun (x : List (Ty.T (Ty.int IntKind.i64))) => x) [Prod.fst s_600])) * (8 : Nat) ≤ (17592186044416 : Nat) then
            some (Sum.inl (IntKind.wrap IntKind.i64 (Prod.fst s_600 + (1 : Int)), Prod.snd s_600 ++ [Prod.fst s_600]))
          else none
        else
          some (Sum.inl (IntKind.wrap IntKind.i64 (Prod.fst s_600 + (1 : Int)), Prod.snd s_600))
    else none
  else
    some (Sum.inr (Prod.snd s_600))

noncomputable def relation_Lacks (l_582 : List (List (List UInt8 × List UInt8 × List UInt8))) (there_583 : List (List UInt8 × List UInt8 × List UInt8)) : Option (List Int) :=
  (iter (relation_Lacks_b0 (there_583) (l_582) ((↑(List.length l_582) : Int))) ((0 : Int), [])).bind (fun t_596 =>
    some (t_596))

def cellarerref07_Lacks_res (r : List Int) : AV := (fun (r_655 : List Int) => AV.view (0 : Nat) (0 : Nat) Option.none) r

def cellarerref07_Lacks_out (r : List Int) : List AO := (fun (r_655 : List Int) => [AO.row (Ty.int IntKind.i64) r_655]) r

noncomputable def cellarerref07_Lacks_b0 (l_637 : List (List (List UInt8 × List UInt8 × List UInt8))) (there_638 : List (List UInt8 × List UInt8 × List UInt8)) (i_639 : Int) (k_641 : Int) (s_658 : Bool × Int) : Option ((Bool × Int) ⊕ (Bool)) :=
  bif Decidable.decide (Prod.snd s_658 < (↑(List.length there_638) : Int)) then
    bif Prod.fst s_658 then
      some (Sum.inl (Bool.true, IntKind.wrap IntKind.i64 (Prod.snd s_658 + (1 : Int))))
    else
      if (0 : Int) ≤ i_639 ∧ i_639 < (↑(List.length l_637) : Int) then
        if (0 : Int) ≤ k_641 ∧ k_641 < (↑(List.length (List.getD l_637 (Int.toNat i_639) [])) : Int) then
          if (0 : Int) ≤ Prod.snd s_658 ∧ Prod.snd s_658 < (↑(List.length there_638) : Int) then
            if (0 : Int) ≤ Prod.snd s_658 ∧ Prod.snd s_658 < (↑(List.length there_638) : Int) then
              (cellarerref07_Fits (Prod.fst (List.getD (List.getD l_637 (Int.toNat i_639) []) (Int.toNat k_641) ([], [], []))) (Prod.fst (Prod.snd (List.getD (List.getD l_637 (Int.toNat i_639) []) (Int.toNat k_641) ([], [], [])))) (Prod.snd (Prod.snd (List.getD (List.getD l_637 (Int.toNat i_639) []) (Int.toNat k_641) ([], [], [])))) (Prod.fst (List.getD there_638 (Int.toNat (Prod.snd s_658)) ([], [], []))) (Prod.snd (Prod.snd (List.getD there_638 (Int.toNat (Prod.snd s_658)) ([], [], []))))).bind fun a_644 =>
                some (Sum.inl (a_644, IntKind.wrap IntKind.i64 (Prod.snd s_658 + (1 : Int))))
            else none
          else none
        else none
      else none
  else
    some (Sum.inr (Prod.fst s_658))

noncomputable def cellarerref07_Lacks_b1 (l_631 : List (List (List UInt8 × List UInt8 × List UInt8))) (there_632 : List (List UInt8 × List UInt8 × List UInt8)) (i_633 : Int) (s_657 : Bool × Int) : Option ((Bool × Int) ⊕ (Bool)) :=
  if (0 : Int) ≤ i_633 ∧ i_633 < (↑(List.length l_631) : Int) then
    bif Decidable.decide (Prod.snd s_657 < (↑(List.length (List.getD l_631 (Int.toNat i_633) [])) : Int)) then
      (iter (cellarerref07_Lacks_b0 (l_631) (there_632) (i_633) (Prod.snd s_657)) (Prod.fst s_657, (0 : Int))).bind (fun t_646 =>
        some (Sum.inl (t_646, IntKind.wrap IntKind.i64 (Prod.snd s_657 + (1 : Int)))))
    else
      some (Sum.inr (Prod.fst s_657))
  else none

noncomputable def cellarerref07_Lacks_b2 (l_627 : List (List (List UInt8 × List UInt8 × List UInt8))) (there_628 : List (List UInt8 × List UInt8 × List UInt8)) (s_656 : Int × List Int) : Option ((Int × List Int) ⊕ (List Int)) :=
  bif Decidable.decide (Prod.fst s_656 < (↑(List.length l_627) : Int)) then
    (iter (cellarerref07_Lacks_b1 (l_627) (there_628) (Prod.fst s_656)) (Bool.false, (0 : Int))).bind (fun t_649 =>
      bif !t_649 then
        if (List.length (Prod.snd s_656) + List.length ((fun (x : List (Ty.T (Ty.int IntKind.i64))) => x) [Prod.fst s_656])) * (8 : Nat) ≤ (17592186044416 : Nat) then
          some (Sum.inl (IntKind.wrap IntKind.i64 (Prod.fst s_656 + (1 : Int)), Prod.snd s_656 ++ [Prod.fst s_656]))
        else none
      else
        some (Sum.inl (IntKind.wrap IntKind.i64 (Prod.fst s_656 + (1 : Int)), Prod.snd s_656)))
  else
    some (Sum.inr (Prod.snd s_656))

noncomputable def cellarerref07_Lacks (l_604 : List (List (List UInt8 × List UInt8 × List UInt8))) (there_605 : List (List UInt8 × List UInt8 × List UInt8)) : Option (List Int) :=
  (iter (cellarerref07_Lacks_b2 (l_604) (there_605)) ((0 : Int), [])).bind (fun t_652 =>
    some (t_652))

def cellarerref07_SameList_res (r : Bool) : AV := (fun (r_673 : Bool) => AV.bool r_673) r

def cellarerref07_SameList_out (r : Bool) : List AO := (fun (r_673 : Bool) => []) r

noncomputable def cellarerref07_SameList_b0 (a_666 : List (List UInt8 × List UInt8 × List UInt8)) (b_667 : List (List UInt8 × List UInt8 × List UInt8)) (s_674 : Int) : Option ((Int) ⊕ (Unit ⊕ Unit)) :=
  bif Decidable.decide (s_674 < (↑(List.length a_666) : Int)) then
    if (0 : Int) ≤ s_674 ∧ s_674 < (↑(List.length a_666) : Int) then
      if (0 : Int) ≤ s_674 ∧ s_674 < (↑(List.length b_667) : Int) then
        bif !(Decidable.decide (Prod.fst (List.getD a_666 (Int.toNat s_674) ([], [], [])) = Prod.fst (List.getD b_667 (Int.toNat s_674) ([], [], []))) && (Decidable.decide (Prod.fst (Prod.snd (List.getD a_666 (Int.toNat s_674) ([], [], []))) = Prod.fst (Prod.snd (List.getD b_667 (Int.toNat s_674) ([], [], [])))) && Decidable.decide (Prod.snd (Prod.snd (List.getD a_666 (Int.toNat s_674) ([], [], []))) = Prod.snd (Prod.snd (List.getD b_667 (Int.toNat s_674) ([], [], [])))))) then
          some (Sum.inr (Sum.inl ()))
        else
          some (Sum.inl (IntKind.wrap IntKind.i64 (s_674 + (1 : Int))))
      else none
    else none
  else
    some (Sum.inr (Sum.inr ()))

noncomputable def cellarerref07_SameList (a_664 : List (List UInt8 × List UInt8 × List UInt8)) (b_665 : List (List UInt8 × List UInt8 × List UInt8)) : Option (Bool) :=
  bif !Decidable.decide ((↑(List.length a_664) : Int) = (↑(List.length b_665) : Int)) then
    some (Bool.false)
  else
    (iter (cellarerref07_SameList_b0 (a_664) (b_665)) ((0 : Int))).bind (Sum.elim (fun t_669 =>
      some (Bool.false)) (fun t_670 =>
      some (Bool.true)))

def cellarerref07_All_res (r : List UInt8 × Int) : AV := (fun (r_729 : List UInt8 × Int) => AV.tup [AV.str (Prod.fst r_729), AV.int IntKind.i64 (Prod.snd r_729)]) r

def cellarerref07_All_out (r : List UInt8 × Int) : List AO := (fun (r_729 : List UInt8 × Int) => []) r

noncomputable def cellarerref07_All_b0 (l_678 : List (List (List UInt8 × List UInt8 × List UInt8))) (s_730 : Int) : Option ((Int) ⊕ (Unit ⊕ Unit)) :=
  bif Decidable.decide (s_730 < (↑(List.length l_678) : Int)) then
    if (0 : Int) ≤ s_730 ∧ s_730 < (↑(List.length l_678) : Int) then
      bif Decidable.decide ((64 : Int) < (↑(List.length (List.getD l_678 (Int.toNat s_730) [])) : Int)) then
        some (Sum.inr (Sum.inl ()))
      else
        some (Sum.inl (IntKind.wrap IntKind.i64 (s_730 + (1 : Int))))
    else none
  else
    some (Sum.inr (Sum.inr ()))

noncomputable def cellarerref07_All_b1 (l_709 : List (List (List UInt8 × List UInt8 × List UInt8))) (i_710 : Int) (s_732 : Int × List (List UInt8)) : Option ((Int × List (List UInt8)) ⊕ (Unit ⊕ List (List UInt8))) :=
  if (0 : Int) ≤ i_710 ∧ i_710 < (↑(List.length l_709) : Int) then
    bif Decidable.decide (Prod.fst s_732 < (↑(List.length (List.getD l_709 (Int.toNat i_710) [])) : Int)) then
      if (0 : Int) ≤ i_710 ∧ i_710 < (↑(List.length l_709) : Int) then
        if (0 : Int) ≤ Prod.fst s_732 ∧ Prod.fst s_732 < (↑(List.length (List.getD l_709 (Int.toNat i_710) [])) : Int) then
          (cellarerref07_Right (Prod.fst (List.getD (List.getD l_709 (Int.toNat i_710) []) (Int.toNat (Prod.fst s_732)) ([], [], []))) (Prod.fst (Prod.snd (List.getD (List.getD l_709 (Int.toNat i_710) []) (Int.toNat (Prod.fst s_732)) ([], [], [])))) (Prod.snd (Prod.snd (List.getD (List.getD l_709 (Int.toNat i_710) []) (Int.toNat (Prod.fst s_732)) ([], [], []))))).bind fun a_714 =>
            bif !a_714 then
              some (Sum.inr (Sum.inl ()))
            else
              if (0 : Int) ≤ i_710 ∧ i_710 < (↑(List.length l_709) : Int) then
                if (0 : Int) ≤ Prod.fst s_732 ∧ Prod.fst s_732 < (↑(List.length (List.getD l_709 (Int.toNat i_710) [])) : Int) then
                  (cellarerref07_Text (Prod.fst (List.getD (List.getD l_709 (Int.toNat i_710) []) (Int.toNat (Prod.fst s_732)) ([], [], []))) (Prod.fst (Prod.snd (List.getD (List.getD l_709 (Int.toNat i_710) []) (Int.toNat (Prod.fst s_732)) ([], [], [])))) (Prod.snd (Prod.snd (List.getD (List.getD l_709 (Int.toNat i_710) []) (Int.toNat (Prod.fst s_732)) ([], [], []))))).bind fun a_715 =>
                    if (List.length (Prod.snd s_732) + List.length ((fun (x : List (Ty.T Ty.str)) => x) [a_715])) * (16 : Nat) ≤ (17592186044416 : Nat) then
                      some (Sum.inl (IntKind.wrap IntKind.i64 (Prod.fst s_732 + (1 : Int)), Prod.snd s_732 ++ [a_715]))
                    else none
                else none
              else none
        else none
      else none
    else
      some (Sum.inr (Sum.inr (Prod.snd s_732)))
  else none

noncomputable def cellarerref07_All_b2 (l_700 : List (List (List UInt8 × List UInt8 × List UInt8))) (s_731 : Int × List (List UInt8)) : Option ((Int × List (List UInt8)) ⊕ (Unit ⊕ List (List UInt8))) :=
  bif Decidable.decide (Prod.fst s_731 < (↑(List.length l_700) : Int)) then
    (iter (cellarerref07_All_b1 (l_700) (Prod.fst s_731)) ((0 : Int), [])).bind (Sum.elim (fun t_716 =>
      some (Sum.inr (Sum.inl ()))) (fun t_718 =>
      bif Decidable.decide ((↑(List.length t_718) : Int) - (↑(0 : Nat) : Int) = (0 : Int)) then
        some (Sum.inr (Sum.inl ()))
      else
        (cellarerref06_Join (List.drop (0 : Nat) t_718) ([(32 : UInt8), (124 : UInt8), (32 : UInt8)])).bind fun a_719 =>
          if (List.length (Prod.snd s_731) + List.length ((fun (x : List (Ty.T Ty.str)) => x) [a_719])) * (16 : Nat) ≤ (17592186044416 : Nat) then
            some (Sum.inl (IntKind.wrap IntKind.i64 (Prod.fst s_731 + (1 : Int)), Prod.snd s_731 ++ [a_719]))
          else none))
  else
    some (Sum.inr (Sum.inr (Prod.snd s_731)))

noncomputable def cellarerref07_All (l_677 : List (List (List UInt8 × List UInt8 × List UInt8))) : Option (List UInt8 × Int) :=
  (iter (cellarerref07_All_b0 (l_677)) ((0 : Int))).bind (Sum.elim (fun t_680 =>
    some ([], (22 : Int))) (fun t_681 =>
    bif Decidable.decide ((64 : Int) < (↑(List.length l_677) : Int)) then
      some ([], (22 : Int))
    else
      (iter (cellarerref07_All_b2 (l_677)) ((0 : Int), [])).bind (Sum.elim (fun t_721 =>
        some ([], (1 : Int))) (fun t_723 =>
        (cellarerref06_Join (List.drop (0 : Nat) t_723) ([(44 : UInt8), (32 : UInt8)])).bind fun a_724 =>
          some (a_724, (0 : Int))))))

def cellarerlaw11_Few_res (r : Bool) : AV := (fun (r_793 : Bool) => AV.bool r_793) r

def cellarerlaw11_Few_out (r : Bool) : List AO := (fun (r_793 : Bool) => []) r

noncomputable def cellarerlaw11_Few_b0 (o0_751 : List (List UInt8 × List UInt8)) (s_795 : Int) : Option ((Int) ⊕ (Unit ⊕ Unit)) :=
  bif Decidable.decide (s_795 < (↑(List.length o0_751) : Int)) then
    if (0 : Int) ≤ s_795 ∧ s_795 < (↑(List.length o0_751) : Int) then
      bif Decidable.decide ((300 : Int) < (↑(List.length (Prod.fst (List.getD o0_751 (Int.toNat s_795) ([], [])))) : Int)) then
        some (Sum.inr (Sum.inl ()))
      else
        if (0 : Int) ≤ s_795 ∧ s_795 < (↑(List.length o0_751) : Int) then
          bif Decidable.decide ((300 : Int) < (↑(List.length (Prod.snd (List.getD o0_751 (Int.toNat s_795) ([], [])))) : Int)) then
            some (Sum.inr (Sum.inl ()))
          else
            some (Sum.inl (IntKind.wrap IntKind.i64 (s_795 + (1 : Int))))
        else none
    else none
  else
    some (Sum.inr (Sum.inr ()))

noncomputable def cellarerlaw11_Few_b1 (k_770 : Int) (o0_777 : List (List UInt8 × Int × List (List UInt8))) (s_797 : Int × Int) : Option ((Int × Int) ⊕ (Unit ⊕ Int)) :=
  if (0 : Int) ≤ k_770 ∧ k_770 < (↑(List.length o0_777) : Int) then
    bif Decidable.decide (Prod.snd s_797 < (↑(List.length (Prod.snd (Prod.snd (List.getD o0_777 (Int.toNat k_770) ([], (0 : Int), []))))) : Int)) then
      if (0 : Int) ≤ k_770 ∧ k_770 < (↑(List.length o0_777) : Int) then
        if (0 : Int) ≤ Prod.snd s_797 ∧ Prod.snd s_797 < (↑(List.length (Prod.snd (Prod.snd (List.getD o0_777 (Int.toNat k_770) ([], (0 : Int), []))))) : Int) then
          bif Decidable.decide ((3000 : Int) < IntKind.wrap IntKind.i64 (Prod.fst s_797 + IntKind.wrap IntKind.i64 ((1 : Int) + if (3000 : Int) < (↑(List.length (List.getD (Prod.snd (Prod.snd (List.getD o0_777 (Int.toNat k_770) ([], (0 : Int), [])))) (Int.toNat (Prod.snd s_797)) [])) : Int) then (3000 : Int) else (↑(List.length (List.getD (Prod.snd (Prod.snd (List.getD o0_777 (Int.toNat k_770) ([], (0 : Int), [])))) (Int.toNat (Prod.snd s_797)) [])) : Int)))) then
            some (Sum.inr (Sum.inl ()))
          else
            some (Sum.inl (IntKind.wrap IntKind.i64 (Prod.fst s_797 + IntKind.wrap IntKind.i64 ((1 : Int) + if (3000 : Int) < (↑(List.length (List.getD (Prod.snd (Prod.snd (List.getD o0_777 (Int.toNat k_770) ([], (0 : Int), [])))) (Int.toNat (Prod.snd s_797)) [])) : Int) then (3000 : Int) else (↑(List.length (List.getD (Prod.snd (Prod.snd (List.getD o0_777 (Int.toNat k_770) ([], (0 : Int), [])))) (Int.toNat (Prod.snd s_797)) [])) : Int))), IntKind.wrap IntKind.i64 (Prod.snd s_797 + (1 : Int))))
        else none
      else none
    else
      some (Sum.inr (Sum.inr (Prod.fst s_797)))
  else none

noncomputable def cellarerlaw11_Few_b2 (o0_764 : List (List UInt8 × Int × List (List UInt8))) (s_796 : Int × Int) : Option ((Int × Int) ⊕ (Unit ⊕ Int)) :=
  bif Decidable.decide (Prod.snd s_796 < (↑(List.length o0_764) : Int)) then
    Option.bind (α := Unit ⊕ Unit) (
      if (0 : Int) ≤ Prod.snd s_796 ∧ Prod.snd s_796 < (↑(List.length o0_764) : Int) then
        bif Decidable.decide ((300 : Int) < (↑(List.length (Prod.fst (List.getD o0_764 (Int.toNat (Prod.snd s_796)) ([], (0 : Int), [])))) : Int)) then
          some (Sum.inl ())
        else
          if (0 : Int) ≤ Prod.snd s_796 ∧ Prod.snd s_796 < (↑(List.length o0_764) : Int) then
            bif Decidable.decide ((70 : Int) < (↑(List.length (Prod.snd (Prod.snd (List.getD o0_764 (Int.toNat (Prod.snd s_796)) ([], (0 : Int), []))))) : Int)) then
              some (Sum.inl ())
            else
              some (Sum.inr ())
          else none
      else none) (Sum.elim (fun t_765 =>
      some (Sum.inr (Sum.inl ()))) (fun t_766 =>
      (iter (cellarerlaw11_Few_b1 (Prod.snd s_796) (o0_764)) (Prod.fst s_796, (0 : Int))).bind (Sum.elim (fun t_778 =>
        some (Sum.inr (Sum.inl ()))) (fun t_780 =>
        some (Sum.inl (t_780, IntKind.wrap IntKind.i64 (Prod.snd s_796 + (1 : Int))))))))
  else
    some (Sum.inr (Sum.inr (Prod.fst s_796)))

noncomputable def cellarerlaw11_Few_b3 (l_738 : List (List UInt8 × List UInt8 × Bool × List UInt8 × List (List UInt8 × List UInt8) × List (List UInt8 × Int × List (List UInt8)))) (s_794 : Int × Int) : Option ((Int × Int) ⊕ (Unit ⊕ Unit)) :=
  bif Decidable.decide (Prod.snd s_794 < (↑(List.length l_738) : Int)) then
    if (0 : Int) ≤ Prod.snd s_794 ∧ Prod.snd s_794 < (↑(List.length l_738) : Int) then
      Option.bind (α := Unit ⊕ Unit) (
        bif Decidable.decide ((300 : Int) < (↑(List.length (Prod.fst (List.getD l_738 (Int.toNat (Prod.snd s_794)) ([], [], Bool.false, [], [], [])))) : Int)) then
          some (Sum.inl ())
        else
          bif Decidable.decide ((300 : Int) < (↑(List.length (Prod.fst (Prod.snd (List.getD l_738 (Int.toNat (Prod.snd s_794)) ([], [], Bool.false, [], [], []))))) : Int)) then
            some (Sum.inl ())
          else
            bif Decidable.decide ((300 : Int) < (↑(List.length (Prod.fst (Prod.snd (Prod.snd (Prod.snd (List.getD l_738 (Int.toNat (Prod.snd s_794)) ([], [], Bool.false, [], [], []))))))) : Int)) then
              some (Sum.inl ())
            else
              bif Decidable.decide ((70 : Int) < (↑(List.length (Prod.fst (Prod.snd (Prod.snd (Prod.snd (Prod.snd (List.getD l_738 (Int.toNat (Prod.snd s_794)) ([], [], Bool.false, [], [], [])))))))) : Int)) then
                some (Sum.inl ())
              else
                bif Decidable.decide ((70 : Int) < (↑(List.length (Prod.snd (Prod.snd (Prod.snd (Prod.snd (Prod.snd (List.getD l_738 (Int.toNat (Prod.snd s_794)) ([], [], Bool.false, [], [], [])))))))) : Int)) then
                  some (Sum.inl ())
                else
                  some (Sum.inr ())) (Sum.elim (fun t_741 =>
        some (Sum.inr (Sum.inl ()))) (fun t_742 =>
        (iter (cellarerlaw11_Few_b0 (Prod.fst (Prod.snd (Prod.snd (Prod.snd (Prod.snd (List.getD l_738 (Int.toNat (Prod.snd s_794)) ([], [], Bool.false, [], [], [])))))))) ((0 : Int))).bind (Sum.elim (fun t_753 =>
          some (Sum.inr (Sum.inl ()))) (fun t_754 =>
          (iter (cellarerlaw11_Few_b2 (Prod.snd (Prod.snd (Prod.snd (Prod.snd (Prod.snd (List.getD l_738 (Int.toNat (Prod.snd s_794)) ([], [], Bool.false, [], [], [])))))))) (Prod.fst s_794, (0 : Int))).bind (Sum.elim (fun t_783 =>
            some (Sum.inr (Sum.inl ()))) (fun t_785 =>
            bif Decidable.decide ((3000 : Int) < IntKind.wrap IntKind.i64 (t_785 + IntKind.wrap IntKind.i64 ((↑(List.length (Prod.fst (Prod.snd (Prod.snd (Prod.snd (Prod.snd (List.getD l_738 (Int.toNat (Prod.snd s_794)) ([], [], Bool.false, [], [], [])))))))) : Int) + (↑(List.length (Prod.snd (Prod.snd (Prod.snd (Prod.snd (Prod.snd (List.getD l_738 (Int.toNat (Prod.snd s_794)) ([], [], Bool.false, [], [], [])))))))) : Int)))) then
              some (Sum.inr (Sum.inl ()))
            else
              some (Sum.inl (IntKind.wrap IntKind.i64 (t_785 + IntKind.wrap IntKind.i64 ((↑(List.length (Prod.fst (Prod.snd (Prod.snd (Prod.snd (Prod.snd (List.getD l_738 (Int.toNat (Prod.snd s_794)) ([], [], Bool.false, [], [], [])))))))) : Int) + (↑(List.length (Prod.snd (Prod.snd (Prod.snd (Prod.snd (Prod.snd (List.getD l_738 (Int.toNat (Prod.snd s_794)) ([], [], Bool.false, [], [], [])))))))) : Int))), IntKind.wrap IntKind.i64 (Prod.snd s_794 + (1 : Int))))))))))
    else none
  else
    some (Sum.inr (Sum.inr ()))

noncomputable def cellarerlaw11_Few (l_737 : List (List UInt8 × List UInt8 × Bool × List UInt8 × List (List UInt8 × List UInt8) × List (List UInt8 × Int × List (List UInt8)))) : Option (Bool) :=
  bif Decidable.decide ((70 : Int) < (↑(List.length l_737) : Int)) then
    some (Bool.false)
  else
    (iter (cellarerlaw11_Few_b3 (l_737)) ((0 : Int), (0 : Int))).bind (Sum.elim (fun t_789 =>
      some (Bool.false)) (fun t_790 =>
      some (Bool.true)))

def cellarerlaw08_Few_res (r : Bool) : AV := (fun (r_850 : Bool) => AV.bool r_850) r

def cellarerlaw08_Few_out (r : Bool) : List AO := (fun (r_850 : Bool) => []) r

noncomputable def cellarerlaw08_Few_b0 (o0_817 : List (List (List UInt8 × List UInt8 × List UInt8))) (o0_818 : List (List UInt8 × List UInt8 × List UInt8)) (o0_819 : List (List UInt8)) (o0_820 : List (List UInt8 × List UInt8)) (o0_821 : List (List UInt8)) (o0_822 : List (List UInt8)) (s_852 : Int × Int) : Option ((Int × Int) ⊕ (Unit ⊕ Int)) :=
  bif Decidable.decide (Prod.snd s_852 < (70 : Int)) then
    Option.bind (α := Unit ⊕ Unit) (
      bif Decidable.decide (Prod.snd s_852 < (↑(List.length o0_817) : Int)) then
        if (0 : Int) ≤ Prod.snd s_852 ∧ Prod.snd s_852 < (↑(List.length o0_817) : Int) then
          bif Decidable.decide ((70 : Int) < (↑(List.length (List.getD o0_817 (Int.toNat (Prod.snd s_852)) [])) : Int)) then
            some (Sum.inl ())
          else
            some (Sum.inr ())
        else none
      else
        some (Sum.inr ())) (Sum.elim (fun t_823 =>
      some (Sum.inr (Sum.inl ()))) (fun t_824 =>
      Option.bind (α := Int) (
        bif Decidable.decide (Prod.snd s_852 < (↑(List.length o0_818) : Int)) then
          if (0 : Int) ≤ Prod.snd s_852 ∧ Prod.snd s_852 < (↑(List.length o0_818) : Int) then
            if (0 : Int) ≤ Prod.snd s_852 ∧ Prod.snd s_852 < (↑(List.length o0_818) : Int) then
              some (IntKind.wrap IntKind.i64 (Prod.fst s_852 + IntKind.wrap IntKind.i64 ((if (4000 : Int) < (↑(List.length (Prod.fst (List.getD o0_818 (Int.toNat (Prod.snd s_852)) ([], [], [])))) : Int) then (4000 : Int) else (↑(List.length (Prod.fst (List.getD o0_818 (Int.toNat (Prod.snd s_852)) ([], [], [])))) : Int)) + if (4000 : Int) < (↑(List.length (Prod.snd (Prod.snd (List.getD o0_818 (Int.toNat (Prod.snd s_852)) ([], [], []))))) : Int) then (4000 : Int) else (↑(List.length (Prod.snd (Prod.snd (List.getD o0_818 (Int.toNat (Prod.snd s_852)) ([], [], []))))) : Int))))
            else none
          else none
        else
          some (Prod.fst s_852)) (fun t_826 =>
        Option.bind (α := Int) (
          bif Decidable.decide (Prod.snd s_852 < (↑(List.length o0_819) : Int)) then
            if (0 : Int) ≤ Prod.snd s_852 ∧ Prod.snd s_852 < (↑(List.length o0_819) : Int) then
              some (IntKind.wrap IntKind.i64 (t_826 + if (4000 : Int) < (↑(List.length (List.getD o0_819 (Int.toNat (Prod.snd s_852)) [])) : Int) then (4000 : Int) else (↑(List.length (List.getD o0_819 (Int.toNat (Prod.snd s_852)) [])) : Int)))
            else none
          else
            some (t_826)) (fun t_828 =>
          Option.bind (α := Int) (
            bif Decidable.decide (Prod.snd s_852 < (↑(List.length o0_820) : Int)) then
              if (0 : Int) ≤ Prod.snd s_852 ∧ Prod.snd s_852 < (↑(List.length o0_820) : Int) then
                if (0 : Int) ≤ Prod.snd s_852 ∧ Prod.snd s_852 < (↑(List.length o0_820) : Int) then
                  some (IntKind.wrap IntKind.i64 (t_828 + IntKind.wrap IntKind.i64 ((if (4000 : Int) < (↑(List.length (Prod.fst (List.getD o0_820 (Int.toNat (Prod.snd s_852)) ([], [])))) : Int) then (4000 : Int) else (↑(List.length (Prod.fst (List.getD o0_820 (Int.toNat (Prod.snd s_852)) ([], [])))) : Int)) + if (4000 : Int) < (↑(List.length (Prod.snd (List.getD o0_820 (Int.toNat (Prod.snd s_852)) ([], [])))) : Int) then (4000 : Int) else (↑(List.length (Prod.snd (List.getD o0_820 (Int.toNat (Prod.snd s_852)) ([], [])))) : Int))))
                else none
              else none
            else
              some (t_828)) (fun t_830 =>
            Option.bind (α := Int) (
              bif Decidable.decide (Prod.snd s_852 < (↑(List.length o0_821) : Int)) then
                if (0 : Int) ≤ Prod.snd s_852 ∧ Prod.snd s_852 < (↑(List.length o0_821) : Int) then
                  some (IntKind.wrap IntKind.i64 (t_830 + if (4000 : Int) < (↑(List.length (List.getD o0_821 (Int.toNat (Prod.snd s_852)) [])) : Int) then (4000 : Int) else (↑(List.length (List.getD o0_821 (Int.toNat (Prod.snd s_852)) [])) : Int)))
                else none
              else
                some (t_830)) (fun t_832 =>
              Option.bind (α := Int) (
                bif Decidable.decide (Prod.snd s_852 < (↑(List.length o0_822) : Int)) then
                  if (0 : Int) ≤ Prod.snd s_852 ∧ Prod.snd s_852 < (↑(List.length o0_822) : Int) then
                    some (IntKind.wrap IntKind.i64 (t_832 + if (4000 : Int) < (↑(List.length (List.getD o0_822 (Int.toNat (Prod.snd s_852)) [])) : Int) then (4000 : Int) else (↑(List.length (List.getD o0_822 (Int.toNat (Prod.snd s_852)) [])) : Int)))
                  else none
                else
                  some (t_832)) (fun t_834 =>
                bif Decidable.decide ((4000 : Int) < t_834) then
                  some (Sum.inr (Sum.inl ()))
                else
                  some (Sum.inl (t_834, IntKind.wrap IntKind.i64 (Prod.snd s_852 + (1 : Int)))))))))))
  else
    some (Sum.inr (Sum.inr (Prod.fst s_852)))

noncomputable def cellarerlaw08_Few_b1 (l_804 : List (List UInt8 × List UInt8 × Int × List (List (List UInt8 × List UInt8 × List UInt8)) × List (List UInt8 × List UInt8 × List UInt8) × List (List UInt8) × List (List UInt8 × List UInt8) × List (List UInt8) × List (List UInt8))) (s_851 : Int × Int) : Option ((Int × Int) ⊕ (Unit ⊕ Unit)) :=
  bif Decidable.decide (Prod.snd s_851 < (↑(List.length l_804) : Int)) then
    if (0 : Int) ≤ Prod.snd s_851 ∧ Prod.snd s_851 < (↑(List.length l_804) : Int) then
      Option.bind (α := Unit ⊕ Unit) (
        bif Decidable.decide ((70 : Int) < (↑(List.length (Prod.fst (Prod.snd (Prod.snd (Prod.snd (List.getD l_804 (Int.toNat (Prod.snd s_851)) ([], [], (0 : Int), [], [], [], [], [], []))))))) : Int)) then
          some (Sum.inl ())
        else
          bif Decidable.decide ((70 : Int) < (↑(List.length (Prod.fst (Prod.snd (Prod.snd (Prod.snd (Prod.snd (List.getD l_804 (Int.toNat (Prod.snd s_851)) ([], [], (0 : Int), [], [], [], [], [], [])))))))) : Int)) then
            some (Sum.inl ())
          else
            bif Decidable.decide ((70 : Int) < (↑(List.length (Prod.fst (Prod.snd (Prod.snd (Prod.snd (Prod.snd (Prod.snd (List.getD l_804 (Int.toNat (Prod.snd s_851)) ([], [], (0 : Int), [], [], [], [], [], []))))))))) : Int)) then
              some (Sum.inl ())
            else
              bif Decidable.decide ((70 : Int) < (↑(List.length (Prod.fst (Prod.snd (Prod.snd (Prod.snd (Prod.snd (Prod.snd (Prod.snd (List.getD l_804 (Int.toNat (Prod.snd s_851)) ([], [], (0 : Int), [], [], [], [], [], [])))))))))) : Int)) then
                some (Sum.inl ())
              else
                bif Decidable.decide ((70 : Int) < (↑(List.length (Prod.fst (Prod.snd (Prod.snd (Prod.snd (Prod.snd (Prod.snd (Prod.snd (Prod.snd (List.getD l_804 (Int.toNat (Prod.snd s_851)) ([], [], (0 : Int), [], [], [], [], [], []))))))))))) : Int)) then
                  some (Sum.inl ())
                else
                  bif Decidable.decide ((70 : Int) < (↑(List.length (Prod.snd (Prod.snd (Prod.snd (Prod.snd (Prod.snd (Prod.snd (Prod.snd (Prod.snd (List.getD l_804 (Int.toNat (Prod.snd s_851)) ([], [], (0 : Int), [], [], [], [], [], []))))))))))) : Int)) then
                    some (Sum.inl ())
                  else
                    some (Sum.inr ())) (Sum.elim (fun t_807 =>
        some (Sum.inr (Sum.inl ()))) (fun t_808 =>
        (cellarerref07_All (Prod.fst (Prod.snd (Prod.snd (Prod.snd (List.getD l_804 (Int.toNat (Prod.snd s_851)) ([], [], (0 : Int), [], [], [], [], [], []))))))).bind fun a_809 =>
          (iter (cellarerlaw08_Few_b0 (Prod.fst (Prod.snd (Prod.snd (Prod.snd (List.getD l_804 (Int.toNat (Prod.snd s_851)) ([], [], (0 : Int), [], [], [], [], [], [])))))) (Prod.fst (Prod.snd (Prod.snd (Prod.snd (Prod.snd (List.getD l_804 (Int.toNat (Prod.snd s_851)) ([], [], (0 : Int), [], [], [], [], [], []))))))) (Prod.fst (Prod.snd (Prod.snd (Prod.snd (Prod.snd (Prod.snd (List.getD l_804 (Int.toNat (Prod.snd s_851)) ([], [], (0 : Int), [], [], [], [], [], [])))))))) (Prod.fst (Prod.snd (Prod.snd (Prod.snd (Prod.snd (Prod.snd (Prod.snd (List.getD l_804 (Int.toNat (Prod.snd s_851)) ([], [], (0 : Int), [], [], [], [], [], []))))))))) (Prod.fst (Prod.snd (Prod.snd (Prod.snd (Prod.snd (Prod.snd (Prod.snd (Prod.snd (List.getD l_804 (Int.toNat (Prod.snd s_851)) ([], [], (0 : Int), [], [], [], [], [], [])))))))))) (Prod.snd (Prod.snd (Prod.snd (Prod.snd (Prod.snd (Prod.snd (Prod.snd (Prod.snd (List.getD l_804 (Int.toNat (Prod.snd s_851)) ([], [], (0 : Int), [], [], [], [], [], []))))))))))) (IntKind.wrap IntKind.i64 (Prod.fst s_851 + IntKind.wrap IntKind.i64 (IntKind.wrap IntKind.i64 (IntKind.wrap IntKind.i64 (IntKind.wrap IntKind.i64 ((20 : Int) + (↑(List.length (Prod.fst (Prod.snd (Prod.snd (Prod.snd (Prod.snd (List.getD l_804 (Int.toNat (Prod.snd s_851)) ([], [], (0 : Int), [], [], [], [], [], [])))))))) : Int)) + if (4000 : Int) < (↑(List.length (Prod.fst (List.getD l_804 (Int.toNat (Prod.snd s_851)) ([], [], (0 : Int), [], [], [], [], [], [])))) : Int) then (4000 : Int) else (↑(List.length (Prod.fst (List.getD l_804 (Int.toNat (Prod.snd s_851)) ([], [], (0 : Int), [], [], [], [], [], [])))) : Int)) + if (4000 : Int) < (↑(List.length (Prod.fst (Prod.snd (List.getD l_804 (Int.toNat (Prod.snd s_851)) ([], [], (0 : Int), [], [], [], [], [], []))))) : Int) then (4000 : Int) else (↑(List.length (Prod.fst (Prod.snd (List.getD l_804 (Int.toNat (Prod.snd s_851)) ([], [], (0 : Int), [], [], [], [], [], []))))) : Int)) + if (4000 : Int) < (↑(List.length (Prod.fst a_809)) : Int) then (4000 : Int) else (↑(List.length (Prod.fst a_809)) : Int))), (0 : Int))).bind (Sum.elim (fun t_841 =>
            some (Sum.inr (Sum.inl ()))) (fun t_843 =>
            some (Sum.inl (t_843, IntKind.wrap IntKind.i64 (Prod.snd s_851 + (1 : Int))))))))
    else none
  else
    some (Sum.inr (Sum.inr ()))

noncomputable def cellarerlaw08_Few (l_803 : List (List UInt8 × List UInt8 × Int × List (List (List UInt8 × List UInt8 × List UInt8)) × List (List UInt8 × List UInt8 × List UInt8) × List (List UInt8) × List (List UInt8 × List UInt8) × List (List UInt8) × List (List UInt8))) : Option (Bool) :=
  bif Decidable.decide ((70 : Int) < (↑(List.length l_803) : Int)) then
    some (Bool.false)
  else
    (iter (cellarerlaw08_Few_b1 (l_803)) ((0 : Int), (0 : Int))).bind (Sum.elim (fun t_846 =>
      some (Bool.false)) (fun t_847 =>
      some (Bool.true)))

def cellarerlaw13_Few_res (r : Bool) : AV := (fun (r_875 : Bool) => AV.bool r_875) r

def cellarerlaw13_Few_out (r : Bool) : List AO := (fun (r_875 : Bool) => []) r

noncomputable def cellarerlaw13_Few_b0 (l_862 : List (List UInt8 × List (List UInt8))) (i_864 : Int) (s_877 : Int × Int) : Option ((Int × Int) ⊕ (Unit ⊕ Int)) :=
  if (0 : Int) ≤ i_864 ∧ i_864 < (↑(List.length l_862) : Int) then
    bif Decidable.decide (Prod.snd s_877 < (↑(List.length (Prod.snd (List.getD l_862 (Int.toNat i_864) ([], [])))) : Int)) then
      if (0 : Int) ≤ i_864 ∧ i_864 < (↑(List.length l_862) : Int) then
        if (0 : Int) ≤ Prod.snd s_877 ∧ Prod.snd s_877 < (↑(List.length (Prod.snd (List.getD l_862 (Int.toNat i_864) ([], [])))) : Int) then
          bif Decidable.decide ((4000 : Int) < IntKind.wrap IntKind.i64 (Prod.fst s_877 + IntKind.wrap IntKind.i64 ((1 : Int) + if (4000 : Int) < (↑(List.length (List.getD (Prod.snd (List.getD l_862 (Int.toNat i_864) ([], []))) (Int.toNat (Prod.snd s_877)) [])) : Int) then (4000 : Int) else (↑(List.length (List.getD (Prod.snd (List.getD l_862 (Int.toNat i_864) ([], []))) (Int.toNat (Prod.snd s_877)) [])) : Int)))) then
            some (Sum.inr (Sum.inl ()))
          else
            some (Sum.inl (IntKind.wrap IntKind.i64 (Prod.fst s_877 + IntKind.wrap IntKind.i64 ((1 : Int) + if (4000 : Int) < (↑(List.length (List.getD (Prod.snd (List.getD l_862 (Int.toNat i_864) ([], []))) (Int.toNat (Prod.snd s_877)) [])) : Int) then (4000 : Int) else (↑(List.length (List.getD (Prod.snd (List.getD l_862 (Int.toNat i_864) ([], []))) (Int.toNat (Prod.snd s_877)) [])) : Int))), IntKind.wrap IntKind.i64 (Prod.snd s_877 + (1 : Int))))
        else none
      else none
    else
      some (Sum.inr (Sum.inr (Prod.fst s_877)))
  else none

noncomputable def cellarerlaw13_Few_b1 (l_857 : List (List UInt8 × List (List UInt8))) (s_876 : Int × Int) : Option ((Int × Int) ⊕ (Unit ⊕ Unit)) :=
  bif Decidable.decide (Prod.snd s_876 < (↑(List.length l_857) : Int)) then
    Option.bind (α := Unit ⊕ Unit) (
      if (0 : Int) ≤ Prod.snd s_876 ∧ Prod.snd s_876 < (↑(List.length l_857) : Int) then
        bif Decidable.decide ((300 : Int) < (↑(List.length (Prod.fst (List.getD l_857 (Int.toNat (Prod.snd s_876)) ([], [])))) : Int)) then
          some (Sum.inl ())
        else
          if (0 : Int) ≤ Prod.snd s_876 ∧ Prod.snd s_876 < (↑(List.length l_857) : Int) then
            bif Decidable.decide ((70 : Int) < (↑(List.length (Prod.snd (List.getD l_857 (Int.toNat (Prod.snd s_876)) ([], [])))) : Int)) then
              some (Sum.inl ())
            else
              some (Sum.inr ())
          else none
      else none) (Sum.elim (fun t_860 =>
      some (Sum.inr (Sum.inl ()))) (fun t_861 =>
      (iter (cellarerlaw13_Few_b0 (l_857) (Prod.snd s_876)) (Prod.fst s_876, (0 : Int))).bind (Sum.elim (fun t_866 =>
        some (Sum.inr (Sum.inl ()))) (fun t_868 =>
        some (Sum.inl (t_868, IntKind.wrap IntKind.i64 (Prod.snd s_876 + (1 : Int))))))))
  else
    some (Sum.inr (Sum.inr ()))

noncomputable def cellarerlaw13_Few (l_856 : List (List UInt8 × List (List UInt8))) : Option (Bool) :=
  bif Decidable.decide ((70 : Int) < (↑(List.length l_856) : Int)) then
    some (Bool.false)
  else
    (iter (cellarerlaw13_Few_b1 (l_856)) ((0 : Int), (0 : Int))).bind (Sum.elim (fun t_871 =>
      some (Bool.false)) (fun t_872 =>
      some (Bool.true)))

def cellarerlaw09_Few_res (r : Bool) : AV := (fun (r_888 : Bool) => AV.bool r_888) r

def cellarerlaw09_Few_out (r : Bool) : List AO := (fun (r_888 : Bool) => []) r

noncomputable def cellarerlaw09_Few_b0 (l_882 : List (List UInt8 × List UInt8 × List UInt8)) (s_889 : Int) : Option ((Int) ⊕ (Unit ⊕ Unit)) :=
  bif Decidable.decide (s_889 < (↑(List.length l_882) : Int)) then
    if (0 : Int) ≤ s_889 ∧ s_889 < (↑(List.length l_882) : Int) then
      bif Decidable.decide ((300 : Int) < (↑(List.length (Prod.fst (List.getD l_882 (Int.toNat s_889) ([], [], [])))) : Int)) then
        some (Sum.inr (Sum.inl ()))
      else
        if (0 : Int) ≤ s_889 ∧ s_889 < (↑(List.length l_882) : Int) then
          bif Decidable.decide ((300 : Int) < (↑(List.length (Prod.fst (Prod.snd (List.getD l_882 (Int.toNat s_889) ([], [], []))))) : Int)) then
            some (Sum.inr (Sum.inl ()))
          else
            if (0 : Int) ≤ s_889 ∧ s_889 < (↑(List.length l_882) : Int) then
              bif Decidable.decide ((300 : Int) < (↑(List.length (Prod.snd (Prod.snd (List.getD l_882 (Int.toNat s_889) ([], [], []))))) : Int)) then
                some (Sum.inr (Sum.inl ()))
              else
                some (Sum.inl (IntKind.wrap IntKind.i64 (s_889 + (1 : Int))))
            else none
        else none
    else none
  else
    some (Sum.inr (Sum.inr ()))

noncomputable def cellarerlaw09_Few (l_881 : List (List UInt8 × List UInt8 × List UInt8)) : Option (Bool) :=
  bif Decidable.decide ((70 : Int) < (↑(List.length l_881) : Int)) then
    some (Bool.false)
  else
    (iter (cellarerlaw09_Few_b0 (l_881)) ((0 : Int))).bind (Sum.elim (fun t_884 =>
      some (Bool.false)) (fun t_885 =>
      some (Bool.true)))

def cellarerlaw12_Few_res (r : Bool) : AV := (fun (r_899 : Bool) => AV.bool r_899) r

def cellarerlaw12_Few_out (r : Bool) : List AO := (fun (r_899 : Bool) => []) r

noncomputable def cellarerlaw12_Few_b0 (l_893 : List (List UInt8 × List UInt8 × Bool)) (s_900 : Int) : Option ((Int) ⊕ (Unit ⊕ Unit)) :=
  bif Decidable.decide (s_900 < (↑(List.length l_893) : Int)) then
    if (0 : Int) ≤ s_900 ∧ s_900 < (↑(List.length l_893) : Int) then
      bif Decidable.decide ((300 : Int) < (↑(List.length (Prod.fst (List.getD l_893 (Int.toNat s_900) ([], [], Bool.false)))) : Int)) then
        some (Sum.inr (Sum.inl ()))
      else
        if (0 : Int) ≤ s_900 ∧ s_900 < (↑(List.length l_893) : Int) then
          bif Decidable.decide ((300 : Int) < (↑(List.length (Prod.fst (Prod.snd (List.getD l_893 (Int.toNat s_900) ([], [], Bool.false))))) : Int)) then
            some (Sum.inr (Sum.inl ()))
          else
            some (Sum.inl (IntKind.wrap IntKind.i64 (s_900 + (1 : Int))))
        else none
    else none
  else
    some (Sum.inr (Sum.inr ()))

noncomputable def cellarerlaw12_Few (l_892 : List (List UInt8 × List UInt8 × Bool)) : Option (Bool) :=
  bif Decidable.decide ((70 : Int) < (↑(List.length l_892) : Int)) then
    some (Bool.false)
  else
    (iter (cellarerlaw12_Few_b0 (l_892)) ((0 : Int))).bind (Sum.elim (fun t_895 =>
      some (Bool.false)) (fun t_896 =>
      some (Bool.true)))

def cellarerlaw19_FewActs_res (r : Bool) : AV := (fun (r_913 : Bool) => AV.bool r_913) r

def cellarerlaw19_FewActs_out (r : Bool) : List AO := (fun (r_913 : Bool) => []) r

noncomputable def cellarerlaw19_FewActs_b0 (l_906 : List (Int × List UInt8 × List UInt8 × List UInt8 × (Int × Int × Int) × Int × Bool × Bool × List (List UInt8 × List UInt8) × List (List UInt8))) (s_914 : Int) : Option ((Int) ⊕ (Unit ⊕ Unit)) :=
  bif Decidable.decide (s_914 < (↑(List.length l_906) : Int)) then
    if (0 : Int) ≤ s_914 ∧ s_914 < (↑(List.length l_906) : Int) then
      (cellarerlaw11_Few ([(Prod.fst (Prod.snd (List.getD l_906 (Int.toNat s_914) ((0 : Int), [], [], [], ((0 : Int), (0 : Int), (0 : Int)), (0 : Int), Bool.false, Bool.false, [], []))), Prod.fst (Prod.snd (Prod.snd (Prod.snd (List.getD l_906 (Int.toNat s_914) ((0 : Int), [], [], [], ((0 : Int), (0 : Int), (0 : Int)), (0 : Int), Bool.false, Bool.false, [], []))))), Bool.false, Prod.fst (Prod.snd (Prod.snd (List.getD l_906 (Int.toNat s_914) ((0 : Int), [], [], [], ((0 : Int), (0 : Int), (0 : Int)), (0 : Int), Bool.false, Bool.false, [], [])))), Prod.fst (Prod.snd (Prod.snd (Prod.snd (Prod.snd (Prod.snd (Prod.snd (Prod.snd (Prod.snd (List.getD l_906 (Int.toNat s_914) ((0 : Int), [], [], [], ((0 : Int), (0 : Int), (0 : Int)), (0 : Int), Bool.false, Bool.false, [], [])))))))))), [([], (0 : Int), Prod.snd (Prod.snd (Prod.snd (Prod.snd (Prod.snd (Prod.snd (Prod.snd (Prod.snd (Prod.snd (List.getD l_906 (Int.toNat s_914) ((0 : Int), [], [], [], ((0 : Int), (0 : Int), (0 : Int)), (0 : Int), Bool.false, Bool.false, [], [])))))))))))])])).bind fun a_908 =>
        bif !a_908 then
          some (Sum.inr (Sum.inl ()))
        else
          some (Sum.inl (IntKind.wrap IntKind.i64 (s_914 + (1 : Int))))
    else none
  else
    some (Sum.inr (Sum.inr ()))

noncomputable def cellarerlaw19_FewActs (l_904 : List (Int × List UInt8 × List UInt8 × List UInt8 × (Int × Int × Int) × Int × Bool × Bool × List (List UInt8 × List UInt8) × List (List UInt8))) (n_905 : Int) : Option (Bool) :=
  bif Decidable.decide (n_905 < (↑(List.length l_904) : Int)) then
    some (Bool.false)
  else
    (iter (cellarerlaw19_FewActs_b0 (l_904)) ((0 : Int))).bind (Sum.elim (fun t_909 =>
      some (Bool.false)) (fun t_910 =>
      some (Bool.true)))

def cellarerlaw19_Few_res (r : Bool) : AV := (fun (r_954 : Bool) => AV.bool r_954) r

def cellarerlaw19_Few_out (r : Bool) : List AO := (fun (r_954 : Bool) => []) r

noncomputable def cellarerlaw19_Few_b0 (o0_939 : List (List UInt8 × Int × (Int × Int × Int) × List UInt8 × Bool)) (s_955 : Int × Int) : Option ((Int × Int) ⊕ (Unit ⊕ Unit)) :=
  bif Decidable.decide (Prod.snd s_955 < (↑(List.length o0_939) : Int)) then
    if (0 : Int) ≤ Prod.snd s_955 ∧ Prod.snd s_955 < (↑(List.length o0_939) : Int) then
      if (0 : Int) ≤ Prod.snd s_955 ∧ Prod.snd s_955 < (↑(List.length o0_939) : Int) then
        bif Decidable.decide ((6000 : Int) < IntKind.wrap IntKind.i64 (Prod.fst s_955 + IntKind.wrap IntKind.i64 ((if (6000 : Int) < (↑(List.length (Prod.fst (List.getD o0_939 (Int.toNat (Prod.snd s_955)) ([], (0 : Int), ((0 : Int), (0 : Int), (0 : Int)), [], Bool.false)))) : Int) then (6000 : Int) else (↑(List.length (Prod.fst (List.getD o0_939 (Int.toNat (Prod.snd s_955)) ([], (0 : Int), ((0 : Int), (0 : Int), (0 : Int)), [], Bool.false)))) : Int)) + if (6000 : Int) < (↑(List.length (Prod.fst (Prod.snd (Prod.snd (Prod.snd (List.getD o0_939 (Int.toNat (Prod.snd s_955)) ([], (0 : Int), ((0 : Int), (0 : Int), (0 : Int)), [], Bool.false))))))) : Int) then (6000 : Int) else (↑(List.length (Prod.fst (Prod.snd (Prod.snd (Prod.snd (List.getD o0_939 (Int.toNat (Prod.snd s_955)) ([], (0 : Int), ((0 : Int), (0 : Int), (0 : Int)), [], Bool.false))))))) : Int)))) then
          some (Sum.inr (Sum.inl ()))
        else
          some (Sum.inl (IntKind.wrap IntKind.i64 (Prod.fst s_955 + IntKind.wrap IntKind.i64 ((if (6000 : Int) < (↑(List.length (Prod.fst (List.getD o0_939 (Int.toNat (Prod.snd s_955)) ([], (0 : Int), ((0 : Int), (0 : Int), (0 : Int)), [], Bool.false)))) : Int) then (6000 : Int) else (↑(List.length (Prod.fst (List.getD o0_939 (Int.toNat (Prod.snd s_955)) ([], (0 : Int), ((0 : Int), (0 : Int), (0 : Int)), [], Bool.false)))) : Int)) + if (6000 : Int) < (↑(List.length (Prod.fst (Prod.snd (Prod.snd (Prod.snd (List.getD o0_939 (Int.toNat (Prod.snd s_955)) ([], (0 : Int), ((0 : Int), (0 : Int), (0 : Int)), [], Bool.false))))))) : Int) then (6000 : Int) else (↑(List.length (Prod.fst (Prod.snd (Prod.snd (Prod.snd (List.getD o0_939 (Int.toNat (Prod.snd s_955)) ([], (0 : Int), ((0 : Int), (0 : Int), (0 : Int)), [], Bool.false))))))) : Int))), IntKind.wrap IntKind.i64 (Prod.snd s_955 + (1 : Int))))
      else none
    else none
  else
    some (Sum.inr (Sum.inr ()))

noncomputable def cellarerlaw19_Few (x_917 : List UInt8) (x_918 : List UInt8) (x_919 : List (List (List UInt8 × List UInt8 × List UInt8))) (x_920 : List (List UInt8 × List UInt8 × List UInt8)) (x_921 : List (List UInt8)) (x_922 : List (List UInt8 × Int × (Int × Int × Int) × List UInt8 × Bool)) (x_923 : List (List UInt8 × List UInt8 × Bool)) (x_924 : List (Int × List UInt8 × List UInt8 × List UInt8 × (Int × Int × Int) × Int × Bool × Bool × List (List UInt8 × List UInt8) × List (List UInt8))) (x_925 : List (Int × List UInt8 × List UInt8 × List UInt8 × (Int × Int × Int) × Int × Bool × Bool × List (List UInt8 × List UInt8) × List (List UInt8))) (x_926 : List (Int × List UInt8 × List UInt8 × List UInt8 × (Int × Int × Int) × Int × Bool × Bool × List (List UInt8 × List UInt8) × List (List UInt8))) (x_927 : List (Int × List UInt8 × List UInt8 × List UInt8 × (Int × Int × Int) × Int × Bool × Bool × List (List UInt8 × List UInt8) × List (List UInt8))) : Option (Bool) :=
  Option.bind (α := Unit ⊕ Unit) (
    bif Decidable.decide ((40 : Int) < (↑(List.length x_922) : Int)) then
      some (Sum.inl ())
    else
      (cellarerlaw08_Few ([(x_917, x_918, (0 : Int), x_919, x_920, x_921, [], [], [])])).bind fun a_928 =>
        bif !a_928 then
          some (Sum.inl ())
        else
          (cellarerlaw12_Few (x_923)).bind fun a_929 =>
            bif !a_929 then
              some (Sum.inl ())
            else
              some (Sum.inr ())) (Sum.elim (fun t_930 =>
    some (Bool.false)) (fun t_931 =>
    (iter (cellarerlaw19_Few_b0 (x_922)) ((0 : Int), (0 : Int))).bind (Sum.elim (fun t_945 =>
      some (Bool.false)) (fun t_946 =>
      (cellarerlaw19_FewActs (x_924) ((10 : Int))).bind fun a_947 =>
        bif !a_947 then
          some (Bool.false)
        else
          (cellarerlaw19_FewActs (x_925) ((10 : Int))).bind fun a_948 =>
            bif !a_948 then
              some (Bool.false)
            else
              (cellarerlaw19_FewActs (x_926) ((10 : Int))).bind fun a_949 =>
                bif !a_949 then
                  some (Bool.false)
                else
                  (cellarerlaw19_FewActs (x_927) ((10 : Int))).bind fun a_950 =>
                    bif !a_950 then
                      some (Bool.false)
                    else
                      some (Bool.true)))))

def cellarerlaw20_few_res (r : Bool) : AV := (fun (r_969 : Bool) => AV.bool r_969) r

def cellarerlaw20_few_out (r : Bool) : List AO := (fun (r_969 : Bool) => []) r

noncomputable def cellarerlaw20_few (st_958 : List (List UInt8 × List UInt8 × Int × List (List (List UInt8 × List UInt8 × List UInt8)) × List (List UInt8 × List UInt8 × List UInt8) × List (List UInt8) × List (List UInt8 × List UInt8) × List (List UInt8) × List (List UInt8))) (st_959 : List (List UInt8 × List UInt8 × List UInt8)) (st_960 : List (List UInt8 × Int × Int × Int)) (st_961 : List (List UInt8 × List UInt8 × Bool × List UInt8 × List (List UInt8 × List UInt8) × List (List UInt8 × Int × List (List UInt8)))) (st_962 : List (List UInt8 × List UInt8 × Bool)) (st_963 : List (List UInt8 × List (List UInt8))) (st_964 : List (List UInt8 × List (List UInt8))) : Option (Bool) :=
  (cellarerlaw08_Few (st_958)).bind fun a_965 =>
    bif a_965 then
      (cellarerlaw13_Few (st_964)).bind fun a_966 =>
        bif a_966 then
          (cellarerlaw09_Few (st_959)).bind fun a_967 =>
            some (a_967)
        else
          some (Bool.false)
    else
      some (Bool.false)

def check_There_res (r : List (List UInt8 × List UInt8 × List UInt8)) : AV := (fun (r_983 : List (List UInt8 × List UInt8 × List UInt8)) => AV.view (0 : Nat) (0 : Nat) Option.none) r

def check_There_out (r : List (List UInt8 × List UInt8 × List UInt8)) : List AO := (fun (r_983 : List (List UInt8 × List UInt8 × List UInt8)) => [AO.row (Ty.prod Ty.str (Ty.prod Ty.str Ty.str)) r_983]) r

noncomputable def check_There_b0 (t_975 : List (List UInt8 × List UInt8 × Int × List (List (List UInt8 × List UInt8 × List UInt8)) × List (List UInt8 × List UInt8 × List UInt8) × List (List UInt8) × List (List UInt8 × List UInt8) × List (List UInt8) × List (List UInt8))) (t_976 : Int) (s_984 : Int × List (List UInt8 × List UInt8 × List UInt8)) : Option ((Int × List (List UInt8 × List UInt8 × List UInt8)) ⊕ (List (List UInt8 × List UInt8 × List UInt8))) :=
  bif Decidable.decide (Prod.fst s_984 < t_976) then
    if (0 : Int) ≤ Prod.fst s_984 ∧ Prod.fst s_984 < (↑(List.length t_975) : Int) then
      bif Decidable.decide (Prod.fst (Prod.snd (Prod.snd (List.getD t_975 (Int.toNat (Prod.fst s_984)) ([], [], (0 : Int), [], [], [], [], [], [])))) = (7 : Int)) then
        if (List.length (Prod.snd s_984) + List.length ((fun (x : List (Ty.T (Ty.prod Ty.str (Ty.prod Ty.str Ty.str)))) => x) [(Prod.fst (List.getD t_975 (Int.toNat (Prod.fst s_984)) ([], [], (0 : Int), [], [], [], [], [], [])), [], Prod.fst (Prod.snd (List.getD t_975 (Int.toNat (Prod.fst s_984)) ([], [], (0 : Int), [], [], [], [], [], []))))])) * (48 : Nat) ≤ (17592186044416 : Nat) then
          some (Sum.inl (IntKind.wrap IntKind.i64 (Prod.fst s_984 + (1 : Int)), Prod.snd s_984 ++ [(Prod.fst (List.getD t_975 (Int.toNat (Prod.fst s_984)) ([], [], (0 : Int), [], [], [], [], [], [])), [], Prod.fst (Prod.snd (List.getD t_975 (Int.toNat (Prod.fst s_984)) ([], [], (0 : Int), [], [], [], [], [], []))))]))
        else none
      else
        bif Decidable.decide (Prod.fst (Prod.snd (Prod.snd (List.getD t_975 (Int.toNat (Prod.fst s_984)) ([], [], (0 : Int), [], [], [], [], [], [])))) = (6 : Int)) then
          if (List.length (Prod.snd s_984) + List.length ((fun (x : List (Ty.T (Ty.prod Ty.str (Ty.prod Ty.str Ty.str)))) => x) [(Prod.fst (List.getD t_975 (Int.toNat (Prod.fst s_984)) ([], [], (0 : Int), [], [], [], [], [], [])), [], Prod.fst (Prod.snd (List.getD t_975 (Int.toNat (Prod.fst s_984)) ([], [], (0 : Int), [], [], [], [], [], []))))])) * (48 : Nat) ≤ (17592186044416 : Nat) then
            some (Sum.inl (IntKind.wrap IntKind.i64 (Prod.fst s_984 + (1 : Int)), Prod.snd s_984 ++ [(Prod.fst (List.getD t_975 (Int.toNat (Prod.fst s_984)) ([], [], (0 : Int), [], [], [], [], [], [])), [], Prod.fst (Prod.snd (List.getD t_975 (Int.toNat (Prod.fst s_984)) ([], [], (0 : Int), [], [], [], [], [], []))))]))
          else none
        else
          some (Sum.inl (IntKind.wrap IntKind.i64 (Prod.fst s_984 + (1 : Int)), Prod.snd s_984))
    else none
  else
    some (Sum.inr (Prod.snd s_984))

noncomputable def check_There (l_971 : List (List UInt8 × List UInt8 × Int × List (List (List UInt8 × List UInt8 × List UInt8)) × List (List UInt8 × List UInt8 × List UInt8) × List (List UInt8) × List (List UInt8 × List UInt8) × List (List UInt8) × List (List UInt8))) : Option (List (List UInt8 × List UInt8 × List UInt8)) :=
  (iter (check_There_b0 (l_971) ((↑(List.length l_971) : Int))) ((0 : Int), [])).bind (fun t_980 =>
    some (t_980))

def cellarerref20_There_res (r : List (List UInt8 × List UInt8 × List UInt8)) : AV := (fun (r_997 : List (List UInt8 × List UInt8 × List UInt8)) => AV.view (0 : Nat) (0 : Nat) Option.none) r

def cellarerref20_There_out (r : List (List UInt8 × List UInt8 × List UInt8)) : List AO := (fun (r_997 : List (List UInt8 × List UInt8 × List UInt8)) => [AO.row (Ty.prod Ty.str (Ty.prod Ty.str Ty.str)) r_997]) r

noncomputable def cellarerref20_There_b0 (l_990 : List (List UInt8 × List UInt8 × Int × List (List (List UInt8 × List UInt8 × List UInt8)) × List (List UInt8 × List UInt8 × List UInt8) × List (List UInt8) × List (List UInt8 × List UInt8) × List (List UInt8) × List (List UInt8))) (s_998 : Int × List (List UInt8 × List UInt8 × List UInt8)) : Option ((Int × List (List UInt8 × List UInt8 × List UInt8)) ⊕ (List (List UInt8 × List UInt8 × List UInt8))) :=
  bif Decidable.decide (Prod.fst s_998 < (↑(List.length l_990) : Int)) then
    if (0 : Int) ≤ Prod.fst s_998 ∧ Prod.fst s_998 < (↑(List.length l_990) : Int) then
      bif Decidable.decide (Prod.fst (Prod.snd (Prod.snd (List.getD l_990 (Int.toNat (Prod.fst s_998)) ([], [], (0 : Int), [], [], [], [], [], [])))) = (7 : Int)) then
        if (0 : Int) ≤ Prod.fst s_998 ∧ Prod.fst s_998 < (↑(List.length l_990) : Int) then
          if (0 : Int) ≤ Prod.fst s_998 ∧ Prod.fst s_998 < (↑(List.length l_990) : Int) then
            if (List.length (Prod.snd s_998) + List.length ((fun (x : List (Ty.T (Ty.prod Ty.str (Ty.prod Ty.str Ty.str)))) => x) [(Prod.fst (List.getD l_990 (Int.toNat (Prod.fst s_998)) ([], [], (0 : Int), [], [], [], [], [], [])), [], Prod.fst (Prod.snd (List.getD l_990 (Int.toNat (Prod.fst s_998)) ([], [], (0 : Int), [], [], [], [], [], []))))])) * (48 : Nat) ≤ (17592186044416 : Nat) then
              some (Sum.inl (IntKind.wrap IntKind.i64 (Prod.fst s_998 + (1 : Int)), Prod.snd s_998 ++ [(Prod.fst (List.getD l_990 (Int.toNat (Prod.fst s_998)) ([], [], (0 : Int), [], [], [], [], [], [])), [], Prod.fst (Prod.snd (List.getD l_990 (Int.toNat (Prod.fst s_998)) ([], [], (0 : Int), [], [], [], [], [], []))))]))
            else none
          else none
        else none
      else
        if (0 : Int) ≤ Prod.fst s_998 ∧ Prod.fst s_998 < (↑(List.length l_990) : Int) then
          bif Decidable.decide (Prod.fst (Prod.snd (Prod.snd (List.getD l_990 (Int.toNat (Prod.fst s_998)) ([], [], (0 : Int), [], [], [], [], [], [])))) = (6 : Int)) then
            if (0 : Int) ≤ Prod.fst s_998 ∧ Prod.fst s_998 < (↑(List.length l_990) : Int) then
              if (0 : Int) ≤ Prod.fst s_998 ∧ Prod.fst s_998 < (↑(List.length l_990) : Int) then
                if (List.length (Prod.snd s_998) + List.length ((fun (x : List (Ty.T (Ty.prod Ty.str (Ty.prod Ty.str Ty.str)))) => x) [(Prod.fst (List.getD l_990 (Int.toNat (Prod.fst s_998)) ([], [], (0 : Int), [], [], [], [], [], [])), [], Prod.fst (Prod.snd (List.getD l_990 (Int.toNat (Prod.fst s_998)) ([], [], (0 : Int), [], [], [], [], [], []))))])) * (48 : Nat) ≤ (17592186044416 : Nat) then
                  some (Sum.inl (IntKind.wrap IntKind.i64 (Prod.fst s_998 + (1 : Int)), Prod.snd s_998 ++ [(Prod.fst (List.getD l_990 (Int.toNat (Prod.fst s_998)) ([], [], (0 : Int), [], [], [], [], [], [])), [], Prod.fst (Prod.snd (List.getD l_990 (Int.toNat (Prod.fst s_998)) ([], [], (0 : Int), [], [], [], [], [], []))))]))
                else none
              else none
            else none
          else
            some (Sum.inl (IntKind.wrap IntKind.i64 (Prod.fst s_998 + (1 : Int)), Prod.snd s_998))
        else none
    else none
  else
    some (Sum.inr (Prod.snd s_998))

noncomputable def cellarerref20_There (l_987 : List (List UInt8 × List UInt8 × Int × List (List (List UInt8 × List UInt8 × List UInt8)) × List (List UInt8 × List UInt8 × List UInt8) × List (List UInt8) × List (List UInt8 × List UInt8) × List (List UInt8) × List (List UInt8))) : Option (List (List UInt8 × List UInt8 × List UInt8)) :=
  (iter (cellarerref20_There_b0 (l_987)) ((0 : Int), [])).bind (fun t_994 =>
    some (t_994))

def cellarerlaw20_ints_res (r : Bool) : AV := (fun (r_1011 : Bool) => AV.bool r_1011) r

def cellarerlaw20_ints_out (r : Bool) : List AO := (fun (r_1011 : Bool) => []) r

noncomputable def cellarerlaw20_ints_b0 (a_1004 : List Int) (b_1005 : List Int) (s_1012 : Int) : Option ((Int) ⊕ (Unit ⊕ Unit)) :=
  bif Decidable.decide (s_1012 < (↑(List.length a_1004) : Int)) then
    if (0 : Int) ≤ s_1012 ∧ s_1012 < (↑(List.length a_1004) : Int) then
      if (0 : Int) ≤ s_1012 ∧ s_1012 < (↑(List.length b_1005) : Int) then
        bif !Decidable.decide (List.getD a_1004 (Int.toNat s_1012) (0 : Int) = List.getD b_1005 (Int.toNat s_1012) (0 : Int)) then
          some (Sum.inr (Sum.inl ()))
        else
          some (Sum.inl (IntKind.wrap IntKind.i64 (s_1012 + (1 : Int))))
      else none
    else none
  else
    some (Sum.inr (Sum.inr ()))

noncomputable def cellarerlaw20_ints (a_1002 : List Int) (b_1003 : List Int) : Option (Bool) :=
  bif !Decidable.decide ((↑(List.length a_1002) : Int) = (↑(List.length b_1003) : Int)) then
    some (Bool.false)
  else
    (iter (cellarerlaw20_ints_b0 (a_1002) (b_1003)) ((0 : Int))).bind (Sum.elim (fun t_1007 =>
      some (Bool.false)) (fun t_1008 =>
      some (Bool.true)))

def check_Missing_res (r : List Int) : AV := (fun (r_1027 : List Int) => AV.view (0 : Nat) (0 : Nat) Option.none) r

def check_Missing_out (r : List Int) : List AO := (fun (r_1027 : List Int) => [AO.row (Ty.int IntKind.i64) r_1027]) r

noncomputable def check_Missing (st_1016 : List (List UInt8 × List UInt8 × Int × List (List (List UInt8 × List UInt8 × List UInt8)) × List (List UInt8 × List UInt8 × List UInt8) × List (List UInt8) × List (List UInt8 × List UInt8) × List (List UInt8) × List (List UInt8))) (st_1017 : List (List UInt8 × List UInt8 × List UInt8)) (st_1018 : List (List UInt8 × Int × Int × Int)) (st_1019 : List (List UInt8 × List UInt8 × Bool × List UInt8 × List (List UInt8 × List UInt8) × List (List UInt8 × Int × List (List UInt8)))) (st_1020 : List (List UInt8 × List UInt8 × Bool)) (st_1021 : List (List UInt8 × List (List UInt8))) (st_1022 : List (List UInt8 × List (List UInt8))) (l_1023 : List (List (List UInt8 × List UInt8 × List UInt8))) : Option (List Int) :=
  (check_There (st_1016)).bind fun a_1024 =>
    (relation_Lacks (l_1023) (List.drop (0 : Nat) a_1024)).bind fun a_1025 =>
      some (a_1025)

def cellarerref20_Missing_res (r : List Int) : AV := (fun (r_1041 : List Int) => AV.view (0 : Nat) (0 : Nat) Option.none) r

def cellarerref20_Missing_out (r : List Int) : List AO := (fun (r_1041 : List Int) => [AO.row (Ty.int IntKind.i64) r_1041]) r

noncomputable def cellarerref20_Missing (st_1030 : List (List UInt8 × List UInt8 × Int × List (List (List UInt8 × List UInt8 × List UInt8)) × List (List UInt8 × List UInt8 × List UInt8) × List (List UInt8) × List (List UInt8 × List UInt8) × List (List UInt8) × List (List UInt8))) (st_1031 : List (List UInt8 × List UInt8 × List UInt8)) (st_1032 : List (List UInt8 × Int × Int × Int)) (st_1033 : List (List UInt8 × List UInt8 × Bool × List UInt8 × List (List UInt8 × List UInt8) × List (List UInt8 × Int × List (List UInt8)))) (st_1034 : List (List UInt8 × List UInt8 × Bool)) (st_1035 : List (List UInt8 × List (List UInt8))) (st_1036 : List (List UInt8 × List (List UInt8))) (l_1037 : List (List (List UInt8 × List UInt8 × List UInt8))) : Option (List Int) :=
  (cellarerref20_There (st_1030)).bind fun a_1038 =>
    (cellarerref07_Lacks (l_1037) (List.drop (0 : Nat) a_1038)).bind fun a_1039 =>
      some (a_1039)

def cellarerref02_Same_res (r : Bool) : AV := (fun (r_1053 : Bool) => AV.bool r_1053) r

def cellarerref02_Same_out (r : Bool) : List AO := (fun (r_1053 : Bool) => []) r

noncomputable def cellarerref02_Same_b0 (a_1046 : List (List UInt8)) (b_1047 : List (List UInt8)) (s_1054 : Int) : Option ((Int) ⊕ (Unit ⊕ Unit)) :=
  bif Decidable.decide (s_1054 < (↑(List.length a_1046) : Int)) then
    if (0 : Int) ≤ s_1054 ∧ s_1054 < (↑(List.length a_1046) : Int) then
      if (0 : Int) ≤ s_1054 ∧ s_1054 < (↑(List.length b_1047) : Int) then
        bif !Decidable.decide (List.getD a_1046 (Int.toNat s_1054) [] = List.getD b_1047 (Int.toNat s_1054) []) then
          some (Sum.inr (Sum.inl ()))
        else
          some (Sum.inl (IntKind.wrap IntKind.i64 (s_1054 + (1 : Int))))
      else none
    else none
  else
    some (Sum.inr (Sum.inr ()))

noncomputable def cellarerref02_Same (a_1044 : List (List UInt8)) (b_1045 : List (List UInt8)) : Option (Bool) :=
  bif !Decidable.decide ((↑(List.length a_1044) : Int) = (↑(List.length b_1045) : Int)) then
    some (Bool.false)
  else
    (iter (cellarerref02_Same_b0 (a_1044) (b_1045)) ((0 : Int))).bind (Sum.elim (fun t_1049 =>
      some (Bool.false)) (fun t_1050 =>
      some (Bool.true)))

def api_Record__res (r : List (List UInt8 × List UInt8 × Int × List (List (List UInt8 × List UInt8 × List UInt8)) × List (List UInt8 × List UInt8 × List UInt8) × List (List UInt8) × List (List UInt8 × List UInt8) × List (List UInt8) × List (List UInt8))) : AV := (fun (r_1062 : List (List UInt8 × List UInt8 × Int × List (List (List UInt8 × List UInt8 × List UInt8)) × List (List UInt8 × List UInt8 × List UInt8) × List (List UInt8) × List (List UInt8 × List UInt8) × List (List UInt8) × List (List UInt8))) => AV.view (0 : Nat) (0 : Nat) Option.none) r

def api_Record__out (r : List (List UInt8 × List UInt8 × Int × List (List (List UInt8 × List UInt8 × List UInt8)) × List (List UInt8 × List UInt8 × List UInt8) × List (List UInt8) × List (List UInt8 × List UInt8) × List (List UInt8) × List (List UInt8))) : List AO := (fun (r_1062 : List (List UInt8 × List UInt8 × Int × List (List (List UInt8 × List UInt8 × List UInt8)) × List (List UInt8 × List UInt8 × List UInt8) × List (List UInt8) × List (List UInt8 × List UInt8) × List (List UInt8) × List (List UInt8))) => [AO.row (Ty.prod Ty.str (Ty.prod Ty.str (Ty.prod (Ty.int IntKind.i64) (Ty.prod (Ty.list (Ty.list (Ty.prod Ty.str (Ty.prod Ty.str Ty.str)))) (Ty.prod (Ty.list (Ty.prod Ty.str (Ty.prod Ty.str Ty.str))) (Ty.prod (Ty.list Ty.str) (Ty.prod (Ty.list (Ty.prod Ty.str Ty.str)) (Ty.prod (Ty.list Ty.str) (Ty.list Ty.str))))))))) r_1062]) r

noncomputable def api_Record_ (s_1060 : List (List UInt8 × List UInt8 × Int × List (List (List UInt8 × List UInt8 × List UInt8)) × List (List UInt8 × List UInt8 × List UInt8) × List (List UInt8) × List (List UInt8 × List UInt8) × List (List UInt8) × List (List UInt8))) : Option (List (List UInt8 × List UInt8 × Int × List (List (List UInt8 × List UInt8 × List UInt8)) × List (List UInt8 × List UInt8 × List UInt8) × List (List UInt8) × List (List UInt8 × List UInt8) × List (List UInt8) × List (List UInt8))) :=
  mayb (List.isEmpty s_1060) (
    some ([])) (
    if ((0 : Nat) + List.length s_1060) * (184 : Nat) ≤ (17592186044416 : Nat) ∧ ((0 : Nat) < List.length s_1060 ∨ (0 : Nat) = (0 : Nat)) then
      some (s_1060)
    else none)

def api_Record__35_res (r : List (List UInt8 × List UInt8 × Int × List (List (List UInt8 × List UInt8 × List UInt8)) × List (List UInt8 × List UInt8 × List UInt8) × List (List UInt8) × List (List UInt8 × List UInt8) × List (List UInt8) × List (List UInt8))) : AV := (fun (r_1065 : List (List UInt8 × List UInt8 × Int × List (List (List UInt8 × List UInt8 × List UInt8)) × List (List UInt8 × List UInt8 × List UInt8) × List (List UInt8) × List (List UInt8 × List UInt8) × List (List UInt8) × List (List UInt8))) => AV.view (0 : Nat) (0 : Nat) Option.none) r

def api_Record__35_out (r : List (List UInt8 × List UInt8 × Int × List (List (List UInt8 × List UInt8 × List UInt8)) × List (List UInt8 × List UInt8 × List UInt8) × List (List UInt8) × List (List UInt8 × List UInt8) × List (List UInt8) × List (List UInt8))) : List AO := (fun (r_1065 : List (List UInt8 × List UInt8 × Int × List (List (List UInt8 × List UInt8 × List UInt8)) × List (List UInt8 × List UInt8 × List UInt8) × List (List UInt8) × List (List UInt8 × List UInt8) × List (List UInt8) × List (List UInt8))) => [AO.row (Ty.prod Ty.str (Ty.prod Ty.str (Ty.prod (Ty.int IntKind.i64) (Ty.prod (Ty.list (Ty.list (Ty.prod Ty.str (Ty.prod Ty.str Ty.str)))) (Ty.prod (Ty.list (Ty.prod Ty.str (Ty.prod Ty.str Ty.str))) (Ty.prod (Ty.list Ty.str) (Ty.prod (Ty.list (Ty.prod Ty.str Ty.str)) (Ty.prod (Ty.list Ty.str) (Ty.list Ty.str))))))))) r_1065]) r

noncomputable def api_Record__35 (s_1063 : List (List UInt8 × List UInt8 × Int × List (List (List UInt8 × List UInt8 × List UInt8)) × List (List UInt8 × List UInt8 × List UInt8) × List (List UInt8) × List (List UInt8 × List UInt8) × List (List UInt8) × List (List UInt8))) : Option (List (List UInt8 × List UInt8 × Int × List (List (List UInt8 × List UInt8 × List UInt8)) × List (List UInt8 × List UInt8 × List UInt8) × List (List UInt8) × List (List UInt8 × List UInt8) × List (List UInt8) × List (List UInt8))) :=
  mayb (List.isEmpty s_1063) (
    some ([])) (
    if ((0 : Nat) + List.length s_1063) * (184 : Nat) ≤ (17592186044416 : Nat) ∧ ((0 : Nat) < List.length s_1063 ∨ (0 : Nat) = (0 : Nat)) then
      some (s_1063)
    else none)

def status_Drop_1_res (r : Bool × List UInt8) : AV := (fun (r_1087 : Bool × List UInt8) => AV.bool (Prod.fst r_1087)) r

def status_Drop_1_out (r : Bool × List UInt8) : List AO := (fun (r_1087 : Bool × List UInt8) => [AO.box [AV.str (Prod.snd r_1087)]]) r

noncomputable def status_Drop_1 (x_1075 : List UInt8) (x_1076 : List UInt8) (x_1077 : Int) (x_1078 : List (List (List UInt8 × List UInt8 × List UInt8))) (x_1079 : List (List UInt8 × List UInt8 × List UInt8)) (x_1080 : List (List UInt8)) (x_1081 : List (List UInt8 × List UInt8)) (x_1082 : List (List UInt8)) (x_1083 : List (List UInt8)) (o0_1084 : List UInt8) : Option (Bool × List UInt8) :=
  some (Decidable.decide (x_1075 = o0_1084), o0_1084)

def api_Record__44_res (r : Int × List UInt8) : AV := (fun (r_1097 : Int × List UInt8) => AV.int IntKind.i64 (Prod.fst r_1097)) r

def api_Record__44_out (r : Int × List UInt8) : List AO := (fun (r_1097 : Int × List UInt8) => [AO.box [AV.str (Prod.snd r_1097)]]) r

noncomputable def api_Record__44_b0 (s_1071 : List (List UInt8 × List UInt8 × Int × List (List (List UInt8 × List UInt8 × List UInt8)) × List (List UInt8 × List UInt8 × List UInt8) × List (List UInt8) × List (List UInt8 × List UInt8) × List (List UInt8) × List (List UInt8))) (t_1072 : Int) (s_1098 : Int × List UInt8) : Option ((Int × List UInt8) ⊕ (Int × List UInt8 ⊕ List UInt8)) :=
  bif Decidable.decide (Prod.fst s_1098 < t_1072) then
    if (0 : Int) ≤ Prod.fst s_1098 ∧ Prod.fst s_1098 < (↑(List.length s_1071) : Int) then
      (status_Drop_1 (Prod.fst (List.getD s_1071 (Int.toNat (Prod.fst s_1098)) ([], [], (0 : Int), [], [], [], [], [], []))) (Prod.fst (Prod.snd (List.getD s_1071 (Int.toNat (Prod.fst s_1098)) ([], [], (0 : Int), [], [], [], [], [], [])))) (Prod.fst (Prod.snd (Prod.snd (List.getD s_1071 (Int.toNat (Prod.fst s_1098)) ([], [], (0 : Int), [], [], [], [], [], []))))) (Prod.fst (Prod.snd (Prod.snd (Prod.snd (List.getD s_1071 (Int.toNat (Prod.fst s_1098)) ([], [], (0 : Int), [], [], [], [], [], [])))))) (Prod.fst (Prod.snd (Prod.snd (Prod.snd (Prod.snd (List.getD s_1071 (Int.toNat (Prod.fst s_1098)) ([], [], (0 : Int), [], [], [], [], [], []))))))) (Prod.fst (Prod.snd (Prod.snd (Prod.snd (Prod.snd (Prod.snd (List.getD s_1071 (Int.toNat (Prod.fst s_1098)) ([], [], (0 : Int), [], [], [], [], [], [])))))))) (Prod.fst (Prod.snd (Prod.snd (Prod.snd (Prod.snd (Prod.snd (Prod.snd (List.getD s_1071 (Int.toNat (Prod.fst s_1098)) ([], [], (0 : Int), [], [], [], [], [], []))))))))) (Prod.fst (Prod.snd (Prod.snd (Prod.snd (Prod.snd (Prod.snd (Prod.snd (Prod.snd (List.getD s_1071 (Int.toNat (Prod.fst s_1098)) ([], [], (0 : Int), [], [], [], [], [], [])))))))))) (Prod.snd (Prod.snd (Prod.snd (Prod.snd (Prod.snd (Prod.snd (Prod.snd (Prod.snd (List.getD s_1071 (Int.toNat (Prod.fst s_1098)) ([], [], (0 : Int), [], [], [], [], [], [])))))))))) (Prod.snd s_1098)).bind fun a_1088 =>
        bif Prod.fst a_1088 then
          some (Sum.inr (Sum.inl (Prod.fst s_1098, Prod.snd a_1088)))
        else
          some (Sum.inl (IntKind.wrap IntKind.i64 (Prod.fst s_1098 + (1 : Int)), Prod.snd a_1088))
    else none
  else
    some (Sum.inr (Sum.inr (Prod.snd s_1098)))

noncomputable def api_Record__44 (s_1069 : List (List UInt8 × List UInt8 × Int × List (List (List UInt8 × List UInt8 × List UInt8)) × List (List UInt8 × List UInt8 × List UInt8) × List (List UInt8) × List (List UInt8 × List UInt8) × List (List UInt8) × List (List UInt8))) (o0_1070 : List UInt8) : Option (Int × List UInt8) :=
  (iter (api_Record__44_b0 (s_1069) ((↑(List.length s_1069) : Int))) ((0 : Int), o0_1070)).bind (Sum.elim (fun t_1091 =>
    some (Prod.fst t_1091, Prod.snd t_1091)) (fun t_1093 =>
    some ((-1 : Int), t_1093)))

def api_Record__34_res (r : List UInt8 × List (List UInt8 × List UInt8 × Int × List (List (List UInt8 × List UInt8 × List UInt8)) × List (List UInt8 × List UInt8 × List UInt8) × List (List UInt8) × List (List UInt8 × List UInt8) × List (List UInt8) × List (List UInt8))) : AV := (fun (r_1113 : List UInt8 × List (List UInt8 × List UInt8 × Int × List (List (List UInt8 × List UInt8 × List UInt8)) × List (List UInt8 × List UInt8 × List UInt8) × List (List UInt8) × List (List UInt8 × List UInt8) × List (List UInt8) × List (List UInt8))) => AV.view (1 : Nat) (0 : Nat) Option.none) r

def api_Record__34_out (r : List UInt8 × List (List UInt8 × List UInt8 × Int × List (List (List UInt8 × List UInt8 × List UInt8)) × List (List UInt8 × List UInt8 × List UInt8) × List (List UInt8) × List (List UInt8 × List UInt8) × List (List UInt8) × List (List UInt8))) : List AO := (fun (r_1113 : List UInt8 × List (List UInt8 × List UInt8 × Int × List (List (List UInt8 × List UInt8 × List UInt8)) × List (List UInt8 × List UInt8 × List UInt8) × List (List UInt8) × List (List UInt8 × List UInt8) × List (List UInt8) × List (List UInt8))) => [AO.box [AV.str (Prod.fst r_1113)], AO.row (Ty.prod Ty.str (Ty.prod Ty.str (Ty.prod (Ty.int IntKind.i64) (Ty.prod (Ty.list (Ty.list (Ty.prod Ty.str (Ty.prod Ty.str Ty.str)))) (Ty.prod (Ty.list (Ty.prod Ty.str (Ty.prod Ty.str Ty.str))) (Ty.prod (Ty.list Ty.str) (Ty.prod (Ty.list (Ty.prod Ty.str Ty.str)) (Ty.prod (Ty.list Ty.str) (Ty.list Ty.str))))))))) (Prod.snd r_1113)]) r

noncomputable def api_Record__34_b0  (s_1114 : Int × Int × List UInt8 × List (List UInt8 × List UInt8 × Int × List (List (List UInt8 × List UInt8 × List UInt8)) × List (List UInt8 × List UInt8 × List UInt8) × List (List UInt8) × List (List UInt8 × List UInt8) × List (List UInt8) × List (List UInt8))) : Option ((Int × Int × List UInt8 × List (List UInt8 × List UInt8 × Int × List (List (List UInt8 × List UInt8 × List UInt8)) × List (List UInt8 × List UInt8 × List UInt8) × List (List UInt8) × List (List UInt8 × List UInt8) × List (List UInt8) × List (List UInt8))) ⊕ (Int × List UInt8 × List (List UInt8 × List UInt8 × Int × List (List (List UInt8 × List UInt8 × List UInt8)) × List (List UInt8 × List UInt8 × List UInt8) × List (List UInt8) × List (List UInt8 × List UInt8) × List (List UInt8) × List (List UInt8)))) :=
  bif Decidable.decide (Prod.fst (Prod.snd s_1114) < (↑(List.length (Prod.snd (Prod.snd (Prod.snd s_1114)))) : Int) - (↑(0 : Nat) : Int)) then
    if (0 : Int) ≤ Prod.fst (Prod.snd s_1114) ∧ Prod.fst (Prod.snd s_1114) + (↑(0 : Nat) : Int) < (↑(List.length (Prod.snd (Prod.snd (Prod.snd s_1114)))) : Int) then
      if (0 : Nat) + Int.toNat (Prod.fst (Prod.snd s_1114)) < List.length (Prod.snd (Prod.snd (Prod.snd s_1114))) then
        (status_Drop_1 (Prod.fst (List.getD (Prod.snd (Prod.snd (Prod.snd s_1114))) ((0 : Nat) + Int.toNat (Prod.fst (Prod.snd s_1114))) ([], [], (0 : Int), [], [], [], [], [], []))) (Prod.fst (Prod.snd (List.getD (Prod.snd (Prod.snd (Prod.snd s_1114))) ((0 : Nat) + Int.toNat (Prod.fst (Prod.snd s_1114))) ([], [], (0 : Int), [], [], [], [], [], [])))) (Prod.fst (Prod.snd (Prod.snd (List.getD (Prod.snd (Prod.snd (Prod.snd s_1114))) ((0 : Nat) + Int.toNat (Prod.fst (Prod.snd s_1114))) ([], [], (0 : Int), [], [], [], [], [], []))))) (Prod.fst (Prod.snd (Prod.snd (Prod.snd (List.getD (Prod.snd (Prod.snd (Prod.snd s_1114))) ((0 : Nat) + Int.toNat (Prod.fst (Prod.snd s_1114))) ([], [], (0 : Int), [], [], [], [], [], [])))))) (Prod.fst (Prod.snd (Prod.snd (Prod.snd (Prod.snd (List.getD (Prod.snd (Prod.snd (Prod.snd s_1114))) ((0 : Nat) + Int.toNat (Prod.fst (Prod.snd s_1114))) ([], [], (0 : Int), [], [], [], [], [], []))))))) (Prod.fst (Prod.snd (Prod.snd (Prod.snd (Prod.snd (Prod.snd (List.getD (Prod.snd (Prod.snd (Prod.snd s_1114))) ((0 : Nat) + Int.toNat (Prod.fst (Prod.snd s_1114))) ([], [], (0 : Int), [], [], [], [], [], [])))))))) (Prod.fst (Prod.snd (Prod.snd (Prod.snd (Prod.snd (Prod.snd (Prod.snd (List.getD (Prod.snd (Prod.snd (Prod.snd s_1114))) ((0 : Nat) + Int.toNat (Prod.fst (Prod.snd s_1114))) ([], [], (0 : Int), [], [], [], [], [], []))))))))) (Prod.fst (Prod.snd (Prod.snd (Prod.snd (Prod.snd (Prod.snd (Prod.snd (Prod.snd (List.getD (Prod.snd (Prod.snd (Prod.snd s_1114))) ((0 : Nat) + Int.toNat (Prod.fst (Prod.snd s_1114))) ([], [], (0 : Int), [], [], [], [], [], [])))))))))) (Prod.snd (Prod.snd (Prod.snd (Prod.snd (Prod.snd (Prod.snd (Prod.snd (Prod.snd (List.getD (Prod.snd (Prod.snd (Prod.snd s_1114))) ((0 : Nat) + Int.toNat (Prod.fst (Prod.snd s_1114))) ([], [], (0 : Int), [], [], [], [], [], [])))))))))) (Prod.fst (Prod.snd (Prod.snd s_1114)))).bind fun a_1105 =>
          bif !Prod.fst a_1105 then
            if (0 : Int) ≤ Prod.fst s_1114 ∧ Prod.fst s_1114 + (↑(0 : Nat) : Int) < (↑(List.length (Prod.snd (Prod.snd (Prod.snd s_1114)))) : Int) then
              if (0 : Nat) + Int.toNat (Prod.fst s_1114) < List.length (Prod.snd (Prod.snd (Prod.snd s_1114))) then
                some (Sum.inl (IntKind.wrap IntKind.i64 (Prod.fst s_1114 + (1 : Int)), IntKind.wrap IntKind.i64 (Prod.fst (Prod.snd s_1114) + (1 : Int)), Prod.snd a_1105, List.set (Prod.snd (Prod.snd (Prod.snd s_1114))) ((0 : Nat) + Int.toNat (Prod.fst s_1114)) (Prod.fst (List.getD (Prod.snd (Prod.snd (Prod.snd s_1114))) ((0 : Nat) + Int.toNat (Prod.fst (Prod.snd s_1114))) ([], [], (0 : Int), [], [], [], [], [], [])), Prod.fst (Prod.snd (List.getD (Prod.snd (Prod.snd (Prod.snd s_1114))) ((0 : Nat) + Int.toNat (Prod.fst (Prod.snd s_1114))) ([], [], (0 : Int), [], [], [], [], [], []))), Prod.fst (Prod.snd (Prod.snd (List.getD (Prod.snd (Prod.snd (Prod.snd s_1114))) ((0 : Nat) + Int.toNat (Prod.fst (Prod.snd s_1114))) ([], [], (0 : Int), [], [], [], [], [], [])))), Prod.fst (Prod.snd (Prod.snd (Prod.snd (List.getD (Prod.snd (Prod.snd (Prod.snd s_1114))) ((0 : Nat) + Int.toNat (Prod.fst (Prod.snd s_1114))) ([], [], (0 : Int), [], [], [], [], [], []))))), Prod.fst (Prod.snd (Prod.snd (Prod.snd (Prod.snd (List.getD (Prod.snd (Prod.snd (Prod.snd s_1114))) ((0 : Nat) + Int.toNat (Prod.fst (Prod.snd s_1114))) ([], [], (0 : Int), [], [], [], [], [], [])))))), Prod.fst (Prod.snd (Prod.snd (Prod.snd (Prod.snd (Prod.snd (List.getD (Prod.snd (Prod.snd (Prod.snd s_1114))) ((0 : Nat) + Int.toNat (Prod.fst (Prod.snd s_1114))) ([], [], (0 : Int), [], [], [], [], [], []))))))), Prod.fst (Prod.snd (Prod.snd (Prod.snd (Prod.snd (Prod.snd (Prod.snd (List.getD (Prod.snd (Prod.snd (Prod.snd s_1114))) ((0 : Nat) + Int.toNat (Prod.fst (Prod.snd s_1114))) ([], [], (0 : Int), [], [], [], [], [], [])))))))), Prod.fst (Prod.snd (Prod.snd (Prod.snd (Prod.snd (Prod.snd (Prod.snd (Prod.snd (List.getD (Prod.snd (Prod.snd (Prod.snd s_1114))) ((0 : Nat) + Int.toNat (Prod.fst (Prod.snd s_1114))) ([], [], (0 : Int), [], [], [], [], [], []))))))))), Prod.snd (Prod.snd (Prod.snd (Prod.snd (Prod.snd (Prod.snd (Prod.snd (Prod.snd (List.getD (Prod.snd (Prod.snd (Prod.snd s_1114))) ((0 : Nat) + Int.toNat (Prod.fst (Prod.snd s_1114))) ([], [], (0 : Int), [], [], [], [], [], []))))))))))))
              else none
            else none
          else
            some (Sum.inl (Prod.fst s_1114, IntKind.wrap IntKind.i64 (Prod.fst (Prod.snd s_1114) + (1 : Int)), Prod.snd a_1105, Prod.snd (Prod.snd (Prod.snd s_1114))))
      else none
    else none
  else
    some (Sum.inr (Prod.fst s_1114, Prod.fst (Prod.snd (Prod.snd s_1114)), Prod.snd (Prod.snd (Prod.snd s_1114))))

noncomputable def api_Record__34 (o0_1067 : List UInt8) (o1_1068 : List (List UInt8 × List UInt8 × Int × List (List (List UInt8 × List UInt8 × List UInt8)) × List (List UInt8 × List UInt8 × List UInt8) × List (List UInt8) × List (List UInt8 × List UInt8) × List (List UInt8) × List (List UInt8))) : Option (List UInt8 × List (List UInt8 × List UInt8 × Int × List (List (List UInt8 × List UInt8 × List UInt8)) × List (List UInt8 × List UInt8 × List UInt8) × List (List UInt8) × List (List UInt8 × List UInt8) × List (List UInt8) × List (List UInt8))) :=
  (api_Record__44 (List.drop (0 : Nat) o1_1068) (o0_1067)).bind fun a_1100 =>
    bif Decidable.decide (Prod.fst a_1100 = (-1 : Int)) then
      some (Prod.snd a_1100, o1_1068)
    else
      (iter (api_Record__34_b0 ) (Prod.fst a_1100, IntKind.wrap IntKind.i64 (Prod.fst a_1100 + (1 : Int)), Prod.snd a_1100, o1_1068)).bind (fun t_1109 =>
        if (0 : Int) ≤ Prod.fst t_1109 ∧ (↑(0 : Nat) : Int) + Prod.fst t_1109 ≤ (↑(List.length (Prod.snd (Prod.snd t_1109))) : Int) then
          if (0 : Int) ≤ (0 : Int) ∧ (0 : Int) ≤ Prod.fst t_1109 ∧ (↑(0 : Nat) : Int) + Prod.fst t_1109 ≤ (↑(List.length (List.take ((0 : Nat) + Int.toNat (Prod.fst t_1109)) (Prod.snd (Prod.snd t_1109)) ++ List.replicate (List.length (Prod.snd (Prod.snd t_1109)) - ((0 : Nat) + Int.toNat (Prod.fst t_1109))) ([], [], (0 : Int), [], [], [], [], [], []))) : Int) then
            some (Prod.fst (Prod.snd t_1109), List.take ((0 : Nat) + Int.toNat (Prod.fst t_1109)) (List.take ((0 : Nat) + Int.toNat (Prod.fst t_1109)) (Prod.snd (Prod.snd t_1109)) ++ List.replicate (List.length (Prod.snd (Prod.snd t_1109)) - ((0 : Nat) + Int.toNat (Prod.fst t_1109))) ([], [], (0 : Int), [], [], [], [], [], [])))
          else none
        else none)

def status_Drop_res (r : List (List UInt8 × List UInt8 × Int × List (List (List UInt8 × List UInt8 × List UInt8)) × List (List UInt8 × List UInt8 × List UInt8) × List (List UInt8) × List (List UInt8 × List UInt8) × List (List UInt8) × List (List UInt8))) : AV := (fun (r_1118 : List (List UInt8 × List UInt8 × Int × List (List (List UInt8 × List UInt8 × List UInt8)) × List (List UInt8 × List UInt8 × List UInt8) × List (List UInt8) × List (List UInt8 × List UInt8) × List (List UInt8) × List (List UInt8))) => AV.view (0 : Nat) (0 : Nat) Option.none) r

def status_Drop_out (r : List (List UInt8 × List UInt8 × Int × List (List (List UInt8 × List UInt8 × List UInt8)) × List (List UInt8 × List UInt8 × List UInt8) × List (List UInt8) × List (List UInt8 × List UInt8) × List (List UInt8) × List (List UInt8))) : List AO := (fun (r_1118 : List (List UInt8 × List UInt8 × Int × List (List (List UInt8 × List UInt8 × List UInt8)) × List (List UInt8 × List UInt8 × List UInt8) × List (List UInt8) × List (List UInt8 × List UInt8) × List (List UInt8) × List (List UInt8))) => [AO.row (Ty.prod Ty.str (Ty.prod Ty.str (Ty.prod (Ty.int IntKind.i64) (Ty.prod (Ty.list (Ty.list (Ty.prod Ty.str (Ty.prod Ty.str Ty.str)))) (Ty.prod (Ty.list (Ty.prod Ty.str (Ty.prod Ty.str Ty.str))) (Ty.prod (Ty.list Ty.str) (Ty.prod (Ty.list (Ty.prod Ty.str Ty.str)) (Ty.prod (Ty.list Ty.str) (Ty.list Ty.str))))))))) r_1118]) r

noncomputable def status_Drop (l_1058 : List (List UInt8 × List UInt8 × Int × List (List (List UInt8 × List UInt8 × List UInt8)) × List (List UInt8 × List UInt8 × List UInt8) × List (List UInt8) × List (List UInt8 × List UInt8) × List (List UInt8) × List (List UInt8))) (name_1059 : List UInt8) : Option (List (List UInt8 × List UInt8 × Int × List (List (List UInt8 × List UInt8 × List UInt8)) × List (List UInt8 × List UInt8 × List UInt8) × List (List UInt8) × List (List UInt8 × List UInt8) × List (List UInt8) × List (List UInt8))) :=
  (api_Record__35 (l_1058)).bind fun a_1066 =>
    (api_Record__34 (name_1059) (a_1066)).bind fun a_1116 =>
      some (Prod.snd a_1116)

def cellarerref08_Drop_res (r : List (List UInt8 × List UInt8 × Int × List (List (List UInt8 × List UInt8 × List UInt8)) × List (List UInt8 × List UInt8 × List UInt8) × List (List UInt8) × List (List UInt8 × List UInt8) × List (List UInt8) × List (List UInt8))) : AV := (fun (r_1134 : List (List UInt8 × List UInt8 × Int × List (List (List UInt8 × List UInt8 × List UInt8)) × List (List UInt8 × List UInt8 × List UInt8) × List (List UInt8) × List (List UInt8 × List UInt8) × List (List UInt8) × List (List UInt8))) => AV.view (0 : Nat) (0 : Nat) Option.none) r

def cellarerref08_Drop_out (r : List (List UInt8 × List UInt8 × Int × List (List (List UInt8 × List UInt8 × List UInt8)) × List (List UInt8 × List UInt8 × List UInt8) × List (List UInt8) × List (List UInt8 × List UInt8) × List (List UInt8) × List (List UInt8))) : List AO := (fun (r_1134 : List (List UInt8 × List UInt8 × Int × List (List (List UInt8 × List UInt8 × List UInt8)) × List (List UInt8 × List UInt8 × List UInt8) × List (List UInt8) × List (List UInt8 × List UInt8) × List (List UInt8) × List (List UInt8))) => [AO.row (Ty.prod Ty.str (Ty.prod Ty.str (Ty.prod (Ty.int IntKind.i64) (Ty.prod (Ty.list (Ty.list (Ty.prod Ty.str (Ty.prod Ty.str Ty.str)))) (Ty.prod (Ty.list (Ty.prod Ty.str (Ty.prod Ty.str Ty.str))) (Ty.prod (Ty.list Ty.str) (Ty.prod (Ty.list (Ty.prod Ty.str Ty.str)) (Ty.prod (Ty.list Ty.str) (Ty.list Ty.str))))))))) r_1134]) r

noncomputable def cellarerref08_Drop_b0 (l_1126 : List (List UInt8 × List UInt8 × Int × List (List (List UInt8 × List UInt8 × List UInt8)) × List (List UInt8 × List UInt8 × List UInt8) × List (List UInt8) × List (List UInt8 × List UInt8) × List (List UInt8) × List (List UInt8))) (name_1127 : List UInt8) (s_1135 : Int × List (List UInt8 × List UInt8 × Int × List (List (List UInt8 × List UInt8 × List UInt8)) × List (List UInt8 × List UInt8 × List UInt8) × List (List UInt8) × List (List UInt8 × List UInt8) × List (List UInt8) × List (List UInt8))) : Option ((Int × List (List UInt8 × List UInt8 × Int × List (List (List UInt8 × List UInt8 × List UInt8)) × List (List UInt8 × List UInt8 × List UInt8) × List (List UInt8) × List (List UInt8 × List UInt8) × List (List UInt8) × List (List UInt8))) ⊕ (List (List UInt8 × List UInt8 × Int × List (List (List UInt8 × List UInt8 × List UInt8)) × List (List UInt8 × List UInt8 × List UInt8) × List (List UInt8) × List (List UInt8 × List UInt8) × List (List UInt8) × List (List UInt8)))) :=
  bif Decidable.decide (Prod.fst s_1135 < (↑(List.length l_1126) : Int)) then
    if (0 : Int) ≤ Prod.fst s_1135 ∧ Prod.fst s_1135 < (↑(List.length l_1126) : Int) then
      bif !Decidable.decide (Prod.fst (List.getD l_1126 (Int.toNat (Prod.fst s_1135)) ([], [], (0 : Int), [], [], [], [], [], [])) = name_1127) then
        if (0 : Int) ≤ Prod.fst s_1135 ∧ Prod.fst s_1135 < (↑(List.length l_1126) : Int) then
          if (List.length (Prod.snd s_1135) + List.length ((fun (x : List (Ty.T (Ty.prod Ty.str (Ty.prod Ty.str (Ty.prod (Ty.int IntKind.i64) (Ty.prod (Ty.list (Ty.list (Ty.prod Ty.str (Ty.prod Ty.str Ty.str)))) (Ty.prod (Ty.list (Ty.prod Ty.str (Ty.prod Ty.str Ty.str))) (Ty.prod (Ty.list Ty.str) (Ty.prod (Ty.list (Ty.prod Ty.str Ty.str)) (Ty.prod (Ty.list Ty.str) (Ty.list Ty.str))))))))))) => x) [(Prod.fst (List.getD l_1126 (Int.toNat (Prod.fst s_1135)) ([], [], (0 : Int), [], [], [], [], [], [])), Prod.fst (Prod.snd (List.getD l_1126 (Int.toNat (Prod.fst s_1135)) ([], [], (0 : Int), [], [], [], [], [], []))), Prod.fst (Prod.snd (Prod.snd (List.getD l_1126 (Int.toNat (Prod.fst s_1135)) ([], [], (0 : Int), [], [], [], [], [], [])))), Prod.fst (Prod.snd (Prod.snd (Prod.snd (List.getD l_1126 (Int.toNat (Prod.fst s_1135)) ([], [], (0 : Int), [], [], [], [], [], []))))), Prod.fst (Prod.snd (Prod.snd (Prod.snd (Prod.snd (List.getD l_1126 (Int.toNat (Prod.fst s_1135)) ([], [], (0 : Int), [], [], [], [], [], [])))))), Prod.fst (Prod.snd (Prod.snd (Prod.snd (Prod.snd (Prod.snd (List.getD l_1126 (Int.toNat (Prod.fst s_1135)) ([], [], (0 : Int), [], [], [], [], [], []))))))), Prod.fst (Prod.snd (Prod.snd (Prod.snd (Prod.snd (Prod.snd (Prod.snd (List.getD l_1126 (Int.toNat (Prod.fst s_1135)) ([], [], (0 : Int), [], [], [], [], [], [])))))))), Prod.fst (Prod.snd (Prod.snd (Prod.snd (Prod.snd (Prod.snd (Prod.snd (Prod.snd (List.getD l_1126 (Int.toNat (Prod.fst s_1135)) ([], [], (0 : Int), [], [], [], [], [], []))))))))), Prod.snd (Prod.snd (Prod.snd (Prod.snd (Prod.snd (Prod.snd (Prod.snd (Prod.snd (List.getD l_1126 (Int.toNat (Prod.fst s_1135)) ([], [], (0 : Int), [], [], [], [], [], []))))))))))])) * (184 : Nat) ≤ (17592186044416 : Nat) then
            some (Sum.inl (IntKind.wrap IntKind.i64 (Prod.fst s_1135 + (1 : Int)), Prod.snd s_1135 ++ [(Prod.fst (List.getD l_1126 (Int.toNat (Prod.fst s_1135)) ([], [], (0 : Int), [], [], [], [], [], [])), Prod.fst (Prod.snd (List.getD l_1126 (Int.toNat (Prod.fst s_1135)) ([], [], (0 : Int), [], [], [], [], [], []))), Prod.fst (Prod.snd (Prod.snd (List.getD l_1126 (Int.toNat (Prod.fst s_1135)) ([], [], (0 : Int), [], [], [], [], [], [])))), Prod.fst (Prod.snd (Prod.snd (Prod.snd (List.getD l_1126 (Int.toNat (Prod.fst s_1135)) ([], [], (0 : Int), [], [], [], [], [], []))))), Prod.fst (Prod.snd (Prod.snd (Prod.snd (Prod.snd (List.getD l_1126 (Int.toNat (Prod.fst s_1135)) ([], [], (0 : Int), [], [], [], [], [], [])))))), Prod.fst (Prod.snd (Prod.snd (Prod.snd (Prod.snd (Prod.snd (List.getD l_1126 (Int.toNat (Prod.fst s_1135)) ([], [], (0 : Int), [], [], [], [], [], []))))))), Prod.fst (Prod.snd (Prod.snd (Prod.snd (Prod.snd (Prod.snd (Prod.snd (List.getD l_1126 (Int.toNat (Prod.fst s_1135)) ([], [], (0 : Int), [], [], [], [], [], [])))))))), Prod.fst (Prod.snd (Prod.snd (Prod.snd (Prod.snd (Prod.snd (Prod.snd (Prod.snd (List.getD l_1126 (Int.toNat (Prod.fst s_1135)) ([], [], (0 : Int), [], [], [], [], [], []))))))))), Prod.snd (Prod.snd (Prod.snd (Prod.snd (Prod.snd (Prod.snd (Prod.snd (Prod.snd (List.getD l_1126 (Int.toNat (Prod.fst s_1135)) ([], [], (0 : Int), [], [], [], [], [], []))))))))))]))
          else none
        else none
      else
        some (Sum.inl (IntKind.wrap IntKind.i64 (Prod.fst s_1135 + (1 : Int)), Prod.snd s_1135))
    else none
  else
    some (Sum.inr (Prod.snd s_1135))

noncomputable def cellarerref08_Drop (l_1121 : List (List UInt8 × List UInt8 × Int × List (List (List UInt8 × List UInt8 × List UInt8)) × List (List UInt8 × List UInt8 × List UInt8) × List (List UInt8) × List (List UInt8 × List UInt8) × List (List UInt8) × List (List UInt8))) (name_1122 : List UInt8) : Option (List (List UInt8 × List UInt8 × Int × List (List (List UInt8 × List UInt8 × List UInt8)) × List (List UInt8 × List UInt8 × List UInt8) × List (List UInt8) × List (List UInt8 × List UInt8) × List (List UInt8) × List (List UInt8))) :=
  (iter (cellarerref08_Drop_b0 (l_1121) (name_1122)) ((0 : Int), [])).bind (fun t_1131 =>
    some (t_1131))

def check_against_1_res (r : Bool × List UInt8 × List UInt8) : AV := (fun (r_1163 : Bool × List UInt8 × List UInt8) => AV.bool (Prod.fst r_1163)) r

def check_against_1_out (r : Bool × List UInt8 × List UInt8) : List AO := (fun (r_1163 : Bool × List UInt8 × List UInt8) => [AO.box [AV.str (Prod.fst (Prod.snd r_1163))], AO.box [AV.str (Prod.snd (Prod.snd r_1163))]]) r

noncomputable def check_against_1 (r_1154 : List UInt8) (r_1155 : List UInt8) (r_1156 : List UInt8) (o0_1157 : List UInt8) (o1_1158 : List UInt8) : Option (Bool × List UInt8 × List UInt8) :=
  (relation_Fits (r_1154) (r_1155) (r_1156) (o0_1157) (o1_1158)).bind fun a_1159 =>
    some (a_1159, o0_1157, o1_1158)

def api_Rel__45_res (r : Int × List UInt8 × List UInt8) : AV := (fun (r_1176 : Int × List UInt8 × List UInt8) => AV.int IntKind.i64 (Prod.fst r_1176)) r

def api_Rel__45_out (r : Int × List UInt8 × List UInt8) : List AO := (fun (r_1176 : Int × List UInt8 × List UInt8) => [AO.box [AV.str (Prod.fst (Prod.snd r_1176))], AO.box [AV.str (Prod.snd (Prod.snd r_1176))]]) r

noncomputable def api_Rel__45_b0 (s_1149 : List (List UInt8 × List UInt8 × List UInt8)) (t_1150 : Int) (s_1177 : Int × List UInt8 × List UInt8) : Option ((Int × List UInt8 × List UInt8) ⊕ (Int × List UInt8 × List UInt8 ⊕ List UInt8 × List UInt8)) :=
  bif Decidable.decide (Prod.fst s_1177 < t_1150) then
    if (0 : Int) ≤ Prod.fst s_1177 ∧ Prod.fst s_1177 < (↑(List.length s_1149) : Int) then
      (check_against_1 (Prod.fst (List.getD s_1149 (Int.toNat (Prod.fst s_1177)) ([], [], []))) (Prod.fst (Prod.snd (List.getD s_1149 (Int.toNat (Prod.fst s_1177)) ([], [], [])))) (Prod.snd (Prod.snd (List.getD s_1149 (Int.toNat (Prod.fst s_1177)) ([], [], [])))) (Prod.fst (Prod.snd s_1177)) (Prod.snd (Prod.snd s_1177))).bind fun a_1164 =>
        bif Prod.fst a_1164 then
          some (Sum.inr (Sum.inl (Prod.fst s_1177, Prod.fst (Prod.snd a_1164), Prod.snd (Prod.snd a_1164))))
        else
          some (Sum.inl (IntKind.wrap IntKind.i64 (Prod.fst s_1177 + (1 : Int)), Prod.fst (Prod.snd a_1164), Prod.snd (Prod.snd a_1164)))
    else none
  else
    some (Sum.inr (Sum.inr (Prod.fst (Prod.snd s_1177), Prod.snd (Prod.snd s_1177))))

noncomputable def api_Rel__45 (s_1146 : List (List UInt8 × List UInt8 × List UInt8)) (o0_1147 : List UInt8) (o1_1148 : List UInt8) : Option (Int × List UInt8 × List UInt8) :=
  (iter (api_Rel__45_b0 (s_1146) ((↑(List.length s_1146) : Int))) ((0 : Int), o0_1147, o1_1148)).bind (Sum.elim (fun t_1168 =>
    some (Prod.fst t_1168, Prod.fst (Prod.snd t_1168), Prod.snd (Prod.snd t_1168))) (fun t_1171 =>
    some ((-1 : Int), Prod.fst t_1171, Prod.snd t_1171)))

def api_Rel__res (r : Bool × List UInt8 × List UInt8) : AV := (fun (r_1183 : Bool × List UInt8 × List UInt8) => AV.bool (Prod.fst r_1183)) r

def api_Rel__out (r : Bool × List UInt8 × List UInt8) : List AO := (fun (r_1183 : Bool × List UInt8 × List UInt8) => [AO.box [AV.str (Prod.fst (Prod.snd r_1183))], AO.box [AV.str (Prod.snd (Prod.snd r_1183))]]) r

noncomputable def api_Rel_ (s_1143 : List (List UInt8 × List UInt8 × List UInt8)) (o0_1144 : List UInt8) (o1_1145 : List UInt8) : Option (Bool × List UInt8 × List UInt8) :=
  (api_Rel__45 (s_1143) (o0_1144) (o1_1145)).bind fun a_1179 =>
    some (Decidable.decide ((0 : Int) ≤ Prod.fst a_1179), Prod.fst (Prod.snd a_1179), Prod.snd (Prod.snd a_1179))

def check_against_res (r : Bool) : AV := (fun (r_1186 : Bool) => AV.bool r_1186) r

def check_against_out (r : Bool) : List AO := (fun (r_1186 : Bool) => []) r

noncomputable def check_against (l_1140 : List (List UInt8 × List UInt8 × List UInt8)) (name_1141 : List UInt8) (v_1142 : List UInt8) : Option (Bool) :=
  (api_Rel_ (l_1140) (name_1141) (v_1142)).bind fun a_1184 =>
    some (Prod.fst a_1184)

def cellarerref20_against_res (r : Bool) : AV := (fun (r_1202 : Bool) => AV.bool r_1202) r

def cellarerref20_against_out (r : Bool) : List AO := (fun (r_1202 : Bool) => []) r

noncomputable def cellarerref20_against_b0 (l_1193 : List (List UInt8 × List UInt8 × List UInt8)) (name_1194 : List UInt8) (v_1195 : List UInt8) (s_1203 : Int) : Option ((Int) ⊕ (Unit ⊕ Unit)) :=
  bif Decidable.decide (s_1203 < (↑(List.length l_1193) : Int)) then
    if (0 : Int) ≤ s_1203 ∧ s_1203 < (↑(List.length l_1193) : Int) then
      (cellarerref07_Fits (Prod.fst (List.getD l_1193 (Int.toNat s_1203) ([], [], []))) (Prod.fst (Prod.snd (List.getD l_1193 (Int.toNat s_1203) ([], [], [])))) (Prod.snd (Prod.snd (List.getD l_1193 (Int.toNat s_1203) ([], [], [])))) (name_1194) (v_1195)).bind fun a_1197 =>
        bif a_1197 then
          some (Sum.inr (Sum.inl ()))
        else
          some (Sum.inl (IntKind.wrap IntKind.i64 (s_1203 + (1 : Int))))
    else none
  else
    some (Sum.inr (Sum.inr ()))

noncomputable def cellarerref20_against (l_1190 : List (List UInt8 × List UInt8 × List UInt8)) (name_1191 : List UInt8) (v_1192 : List UInt8) : Option (Bool) :=
  (iter (cellarerref20_against_b0 (l_1190) (name_1191) (v_1192)) ((0 : Int))).bind (Sum.elim (fun t_1198 =>
    some (Bool.true)) (fun t_1199 =>
    some (Bool.false)))

def check_Conflicts_res (r : List (List UInt8)) : AV := (fun (r_1268 : List (List UInt8)) => AV.view (0 : Nat) (0 : Nat) Option.none) r

def check_Conflicts_out (r : List (List UInt8)) : List AO := (fun (r_1268 : List (List UInt8)) => [AO.row Ty.str r_1268]) r

noncomputable def check_Conflicts_b0 (t_1244 : List (List UInt8 × List UInt8 × Int × List (List (List UInt8 × List UInt8 × List UInt8)) × List (List UInt8 × List UInt8 × List UInt8) × List (List UInt8) × List (List UInt8 × List UInt8) × List (List UInt8) × List (List UInt8))) (t_1245 : Int) (o0_1247 : List UInt8) (o0_1248 : List UInt8) (o0_1250 : List (List UInt8 × List UInt8 × List UInt8)) (s_1269 : Int × List (List UInt8)) : Option ((Int × List (List UInt8)) ⊕ (List (List UInt8))) :=
  bif Decidable.decide (Prod.fst s_1269 < t_1245) then
    if (0 : Int) ≤ Prod.fst s_1269 ∧ Prod.fst s_1269 < (↑(List.length t_1244) : Int) then
      Option.bind (α := Unit ⊕ Unit) (
        bif Decidable.decide (Prod.fst (List.getD t_1244 (Int.toNat (Prod.fst s_1269)) ([], [], (0 : Int), [], [], [], [], [], [])) = o0_1247) then
          some (Sum.inl ())
        else
          bif Decidable.decide (Prod.fst (Prod.snd (Prod.snd (List.getD t_1244 (Int.toNat (Prod.fst s_1269)) ([], [], (0 : Int), [], [], [], [], [], [])))) = (1 : Int)) then
            some (Sum.inl ())
          else
            some (Sum.inr ())) (Sum.elim (fun t_1259 =>
        some (Sum.inl (IntKind.wrap IntKind.i64 (Prod.fst s_1269 + (1 : Int)), Prod.snd s_1269))) (fun t_1260 =>
        (check_against (o0_1250) (Prod.fst (List.getD t_1244 (Int.toNat (Prod.fst s_1269)) ([], [], (0 : Int), [], [], [], [], [], []))) (Prod.fst (Prod.snd (List.getD t_1244 (Int.toNat (Prod.fst s_1269)) ([], [], (0 : Int), [], [], [], [], [], []))))).bind fun a_1261 =>
          bif a_1261 then
            if (List.length (Prod.snd s_1269) + List.length ((fun (x : List (Ty.T Ty.str)) => x) [Prod.fst (List.getD t_1244 (Int.toNat (Prod.fst s_1269)) ([], [], (0 : Int), [], [], [], [], [], []))])) * (16 : Nat) ≤ (17592186044416 : Nat) then
              some (Sum.inl (IntKind.wrap IntKind.i64 (Prod.fst s_1269 + (1 : Int)), Prod.snd s_1269 ++ [Prod.fst (List.getD t_1244 (Int.toNat (Prod.fst s_1269)) ([], [], (0 : Int), [], [], [], [], [], []))]))
            else none
          else
            (check_against (Prod.fst (Prod.snd (Prod.snd (Prod.snd (Prod.snd (List.getD t_1244 (Int.toNat (Prod.fst s_1269)) ([], [], (0 : Int), [], [], [], [], [], []))))))) (o0_1247) (o0_1248)).bind fun a_1262 =>
              bif a_1262 then
                if (List.length (Prod.snd s_1269) + List.length ((fun (x : List (Ty.T Ty.str)) => x) [Prod.fst (List.getD t_1244 (Int.toNat (Prod.fst s_1269)) ([], [], (0 : Int), [], [], [], [], [], []))])) * (16 : Nat) ≤ (17592186044416 : Nat) then
                  some (Sum.inl (IntKind.wrap IntKind.i64 (Prod.fst s_1269 + (1 : Int)), Prod.snd s_1269 ++ [Prod.fst (List.getD t_1244 (Int.toNat (Prod.fst s_1269)) ([], [], (0 : Int), [], [], [], [], [], []))]))
                else none
              else
                some (Sum.inl (IntKind.wrap IntKind.i64 (Prod.fst s_1269 + (1 : Int)), Prod.snd s_1269))))
    else none
  else
    some (Sum.inr (Prod.snd s_1269))

noncomputable def check_Conflicts (st_1207 : List (List UInt8 × List UInt8 × Int × List (List (List UInt8 × List UInt8 × List UInt8)) × List (List UInt8 × List UInt8 × List UInt8) × List (List UInt8) × List (List UInt8 × List UInt8) × List (List UInt8) × List (List UInt8))) (st_1208 : List (List UInt8 × List UInt8 × List UInt8)) (st_1209 : List (List UInt8 × Int × Int × Int)) (st_1210 : List (List UInt8 × List UInt8 × Bool × List UInt8 × List (List UInt8 × List UInt8) × List (List UInt8 × Int × List (List UInt8)))) (st_1211 : List (List UInt8 × List UInt8 × Bool)) (st_1212 : List (List UInt8 × List (List UInt8))) (st_1213 : List (List UInt8 × List (List UInt8))) (x_1214 : List UInt8) (x_1215 : List UInt8) (x_1216 : List (List (List UInt8 × List UInt8 × List UInt8))) (x_1217 : List (List UInt8 × List UInt8 × List UInt8)) (x_1218 : List (List UInt8)) (x_1219 : List (List UInt8 × Int × (Int × Int × Int) × List UInt8 × Bool)) (x_1220 : List (List UInt8 × List UInt8 × Bool)) (x_1221 : List (Int × List UInt8 × List UInt8 × List UInt8 × (Int × Int × Int) × Int × Bool × Bool × List (List UInt8 × List UInt8) × List (List UInt8))) (x_1222 : List (Int × List UInt8 × List UInt8 × List UInt8 × (Int × Int × Int) × Int × Bool × Bool × List (List UInt8 × List UInt8) × List (List UInt8))) (x_1223 : List (Int × List UInt8 × List UInt8 × List UInt8 × (Int × Int × Int) × Int × Bool × Bool × List (List UInt8 × List UInt8) × List (List UInt8))) (x_1224 : List (Int × List UInt8 × List UInt8 × List UInt8 × (Int × Int × Int) × Int × Bool × Bool × List (List UInt8 × List UInt8) × List (List UInt8))) : Option (List (List UInt8)) :=
  (iter (check_Conflicts_b0 (st_1207) ((↑(List.length st_1207) : Int)) (x_1214) (x_1215) (x_1217)) ((0 : Int), [])).bind (fun t_1265 =>
    some (t_1265))

def cellarerref20_Conflicts_res (r : List (List UInt8)) : AV := (fun (r_1338 : List (List UInt8)) => AV.view (0 : Nat) (0 : Nat) Option.none) r

def cellarerref20_Conflicts_out (r : List (List UInt8)) : List AO := (fun (r_1338 : List (List UInt8)) => [AO.row Ty.str r_1338]) r

noncomputable def cellarerref20_Conflicts_b0 (o0_1313 : List (List UInt8 × List UInt8 × Int × List (List (List UInt8 × List UInt8 × List UInt8)) × List (List UInt8 × List UInt8 × List UInt8) × List (List UInt8) × List (List UInt8 × List UInt8) × List (List UInt8) × List (List UInt8))) (o1_1320 : List UInt8) (o1_1321 : List UInt8) (o1_1323 : List (List UInt8 × List UInt8 × List UInt8)) (s_1339 : Int × List (List UInt8)) : Option ((Int × List (List UInt8)) ⊕ (List (List UInt8))) :=
  bif Decidable.decide (Prod.fst s_1339 < (↑(List.length o0_1313) : Int)) then
    if (0 : Int) ≤ Prod.fst s_1339 ∧ Prod.fst s_1339 < (↑(List.length o0_1313) : Int) then
      bif !Decidable.decide (Prod.fst (List.getD o0_1313 (Int.toNat (Prod.fst s_1339)) ([], [], (0 : Int), [], [], [], [], [], [])) = o1_1320) then
        bif !Decidable.decide (Prod.fst (Prod.snd (Prod.snd (List.getD o0_1313 (Int.toNat (Prod.fst s_1339)) ([], [], (0 : Int), [], [], [], [], [], [])))) = (1 : Int)) then
          (cellarerref20_against (o1_1323) (Prod.fst (List.getD o0_1313 (Int.toNat (Prod.fst s_1339)) ([], [], (0 : Int), [], [], [], [], [], []))) (Prod.fst (Prod.snd (List.getD o0_1313 (Int.toNat (Prod.fst s_1339)) ([], [], (0 : Int), [], [], [], [], [], []))))).bind fun a_1332 =>
            bif a_1332 then
              if (List.length (Prod.snd s_1339) + List.length ((fun (x : List (Ty.T Ty.str)) => x) [Prod.fst (List.getD o0_1313 (Int.toNat (Prod.fst s_1339)) ([], [], (0 : Int), [], [], [], [], [], []))])) * (16 : Nat) ≤ (17592186044416 : Nat) then
                some (Sum.inl (IntKind.wrap IntKind.i64 (Prod.fst s_1339 + (1 : Int)), Prod.snd s_1339 ++ [Prod.fst (List.getD o0_1313 (Int.toNat (Prod.fst s_1339)) ([], [], (0 : Int), [], [], [], [], [], []))]))
              else none
            else
              (cellarerref20_against (Prod.fst (Prod.snd (Prod.snd (Prod.snd (Prod.snd (List.getD o0_1313 (Int.toNat (Prod.fst s_1339)) ([], [], (0 : Int), [], [], [], [], [], []))))))) (o1_1320) (o1_1321)).bind fun a_1333 =>
                bif a_1333 then
                  if (List.length (Prod.snd s_1339) + List.length ((fun (x : List (Ty.T Ty.str)) => x) [Prod.fst (List.getD o0_1313 (Int.toNat (Prod.fst s_1339)) ([], [], (0 : Int), [], [], [], [], [], []))])) * (16 : Nat) ≤ (17592186044416 : Nat) then
                    some (Sum.inl (IntKind.wrap IntKind.i64 (Prod.fst s_1339 + (1 : Int)), Prod.snd s_1339 ++ [Prod.fst (List.getD o0_1313 (Int.toNat (Prod.fst s_1339)) ([], [], (0 : Int), [], [], [], [], [], []))]))
                  else none
                else
                  some (Sum.inl (IntKind.wrap IntKind.i64 (Prod.fst s_1339 + (1 : Int)), Prod.snd s_1339))
        else
          some (Sum.inl (IntKind.wrap IntKind.i64 (Prod.fst s_1339 + (1 : Int)), Prod.snd s_1339))
      else
        some (Sum.inl (IntKind.wrap IntKind.i64 (Prod.fst s_1339 + (1 : Int)), Prod.snd s_1339))
    else none
  else
    some (Sum.inr (Prod.snd s_1339))

noncomputable def cellarerref20_Conflicts (st_1273 : List (List UInt8 × List UInt8 × Int × List (List (List UInt8 × List UInt8 × List UInt8)) × List (List UInt8 × List UInt8 × List UInt8) × List (List UInt8) × List (List UInt8 × List UInt8) × List (List UInt8) × List (List UInt8))) (st_1274 : List (List UInt8 × List UInt8 × List UInt8)) (st_1275 : List (List UInt8 × Int × Int × Int)) (st_1276 : List (List UInt8 × List UInt8 × Bool × List UInt8 × List (List UInt8 × List UInt8) × List (List UInt8 × Int × List (List UInt8)))) (st_1277 : List (List UInt8 × List UInt8 × Bool)) (st_1278 : List (List UInt8 × List (List UInt8))) (st_1279 : List (List UInt8 × List (List UInt8))) (x_1280 : List UInt8) (x_1281 : List UInt8) (x_1282 : List (List (List UInt8 × List UInt8 × List UInt8))) (x_1283 : List (List UInt8 × List UInt8 × List UInt8)) (x_1284 : List (List UInt8)) (x_1285 : List (List UInt8 × Int × (Int × Int × Int) × List UInt8 × Bool)) (x_1286 : List (List UInt8 × List UInt8 × Bool)) (x_1287 : List (Int × List UInt8 × List UInt8 × List UInt8 × (Int × Int × Int) × Int × Bool × Bool × List (List UInt8 × List UInt8) × List (List UInt8))) (x_1288 : List (Int × List UInt8 × List UInt8 × List UInt8 × (Int × Int × Int) × Int × Bool × Bool × List (List UInt8 × List UInt8) × List (List UInt8))) (x_1289 : List (Int × List UInt8 × List UInt8 × List UInt8 × (Int × Int × Int) × Int × Bool × Bool × List (List UInt8 × List UInt8) × List (List UInt8))) (x_1290 : List (Int × List UInt8 × List UInt8 × List UInt8 × (Int × Int × Int) × Int × Bool × Bool × List (List UInt8 × List UInt8) × List (List UInt8))) : Option (List (List UInt8)) :=
  (iter (cellarerref20_Conflicts_b0 (st_1273) (x_1280) (x_1281) (x_1283)) ((0 : Int), [])).bind (fun t_1335 =>
    some (t_1335))

def check_Needed_res (r : List (List UInt8)) : AV := (fun (r_1399 : List (List UInt8)) => AV.view (0 : Nat) (0 : Nat) Option.none) r

def check_Needed_out (r : List (List UInt8)) : List AO := (fun (r_1399 : List (List UInt8)) => [AO.row Ty.str r_1399]) r

noncomputable def check_Needed_b0 (t_1373 : Int) (o0_1375 : List (List UInt8 × List UInt8 × Int × List (List (List UInt8 × List UInt8 × List UInt8)) × List (List UInt8 × List UInt8 × List UInt8) × List (List UInt8) × List (List UInt8 × List UInt8) × List (List UInt8) × List (List UInt8))) (o0_1376 : List (List UInt8 × List UInt8 × List UInt8)) (o0_1377 : List (List UInt8 × Int × Int × Int)) (o0_1378 : List (List UInt8 × List UInt8 × Bool × List UInt8 × List (List UInt8 × List UInt8) × List (List UInt8 × Int × List (List UInt8)))) (o0_1379 : List (List UInt8 × List UInt8 × Bool)) (o0_1380 : List (List UInt8 × List (List UInt8))) (o0_1381 : List (List UInt8 × List (List UInt8))) (o1_1382 : List (List UInt8 × List UInt8 × List UInt8)) (o1_1383 : List (List UInt8 × Int × Int × Int)) (o1_1384 : List (List UInt8 × List UInt8 × Bool × List UInt8 × List (List UInt8 × List UInt8) × List (List UInt8 × Int × List (List UInt8)))) (o1_1385 : List (List UInt8 × List UInt8 × Bool)) (o1_1386 : List (List UInt8 × List (List UInt8))) (o1_1387 : List (List UInt8 × List (List UInt8))) (o3_1389 : List (List UInt8 × List UInt8 × Int × List (List (List UInt8 × List UInt8 × List UInt8)) × List (List UInt8 × List UInt8 × List UInt8) × List (List UInt8) × List (List UInt8 × List UInt8) × List (List UInt8) × List (List UInt8))) (s_1400 : Int × List (List UInt8)) : Option ((Int × List (List UInt8)) ⊕ (List (List UInt8))) :=
  bif Decidable.decide (Prod.fst s_1400 < t_1373) then
    if (0 : Int) ≤ Prod.fst s_1400 ∧ Prod.fst s_1400 + (↑(0 : Nat) : Int) < (↑(List.length o3_1389) : Int) then
      if (0 : Nat) + Int.toNat (Prod.fst s_1400) < List.length o3_1389 then
        Option.bind (α := Bool) (
          bif Decidable.decide (Prod.fst (Prod.snd (Prod.snd (List.getD o3_1389 ((0 : Nat) + Int.toNat (Prod.fst s_1400)) ([], [], (0 : Int), [], [], [], [], [], [])))) = (7 : Int)) then
            some (Bool.true)
          else
            bif Decidable.decide (Prod.fst (Prod.snd (Prod.snd (List.getD o3_1389 ((0 : Nat) + Int.toNat (Prod.fst s_1400)) ([], [], (0 : Int), [], [], [], [], [], [])))) = (6 : Int)) then
              some (Bool.true)
            else
              some (Decidable.decide (Prod.fst (Prod.snd (Prod.snd (List.getD o3_1389 ((0 : Nat) + Int.toNat (Prod.fst s_1400)) ([], [], (0 : Int), [], [], [], [], [], [])))) = (5 : Int)))) (fun t_1391 =>
          bif t_1391 then
            (check_Missing (List.drop (0 : Nat) o3_1389) (o1_1382) (o1_1383) (o1_1384) (o1_1385) (o1_1386) (o1_1387) (Prod.fst (Prod.snd (Prod.snd (Prod.snd (List.getD o3_1389 ((0 : Nat) + Int.toNat (Prod.fst s_1400)) ([], [], (0 : Int), [], [], [], [], [], []))))))).bind fun a_1392 =>
              (check_Missing (o0_1375) (o0_1376) (o0_1377) (o0_1378) (o0_1379) (o0_1380) (o0_1381) (Prod.fst (Prod.snd (Prod.snd (Prod.snd (List.getD o3_1389 ((0 : Nat) + Int.toNat (Prod.fst s_1400)) ([], [], (0 : Int), [], [], [], [], [], []))))))).bind fun a_1393 =>
                bif Decidable.decide ((↑(List.length a_1393) : Int) - (↑(0 : Nat) : Int) < (↑(List.length a_1392) : Int) - (↑(0 : Nat) : Int)) then
                  if (List.length (Prod.snd s_1400) + List.length ((fun (x : List (Ty.T Ty.str)) => x) [Prod.fst (List.getD o3_1389 ((0 : Nat) + Int.toNat (Prod.fst s_1400)) ([], [], (0 : Int), [], [], [], [], [], []))])) * (16 : Nat) ≤ (17592186044416 : Nat) then
                    some (Sum.inl (IntKind.wrap IntKind.i64 (Prod.fst s_1400 + (1 : Int)), Prod.snd s_1400 ++ [Prod.fst (List.getD o3_1389 ((0 : Nat) + Int.toNat (Prod.fst s_1400)) ([], [], (0 : Int), [], [], [], [], [], []))]))
                  else none
                else
                  some (Sum.inl (IntKind.wrap IntKind.i64 (Prod.fst s_1400 + (1 : Int)), Prod.snd s_1400))
          else
            some (Sum.inl (IntKind.wrap IntKind.i64 (Prod.fst s_1400 + (1 : Int)), Prod.snd s_1400)))
      else none
    else none
  else
    some (Sum.inr (Prod.snd s_1400))

noncomputable def check_Needed (st_1343 : List (List UInt8 × List UInt8 × Int × List (List (List UInt8 × List UInt8 × List UInt8)) × List (List UInt8 × List UInt8 × List UInt8) × List (List UInt8) × List (List UInt8 × List UInt8) × List (List UInt8) × List (List UInt8))) (st_1344 : List (List UInt8 × List UInt8 × List UInt8)) (st_1345 : List (List UInt8 × Int × Int × Int)) (st_1346 : List (List UInt8 × List UInt8 × Bool × List UInt8 × List (List UInt8 × List UInt8) × List (List UInt8 × Int × List (List UInt8)))) (st_1347 : List (List UInt8 × List UInt8 × Bool)) (st_1348 : List (List UInt8 × List (List UInt8))) (st_1349 : List (List UInt8 × List (List UInt8))) (name_1350 : List UInt8) : Option (List (List UInt8)) :=
  (status_Drop (st_1343) (name_1350)).bind fun a_1351 =>
    (iter (check_Needed_b0 ((↑(List.length a_1351) : Int) - (↑(0 : Nat) : Int)) (st_1343) (st_1344) (st_1345) (st_1346) (st_1347) (st_1348) (st_1349) (st_1344) (st_1345) (st_1346) (st_1347) (st_1348) (st_1349) (a_1351)) ((0 : Int), [])).bind (fun t_1396 =>
      some (t_1396))

def cellarerref20_Needed_res (r : List (List UInt8)) : AV := (fun (r_1440 : List (List UInt8)) => AV.view (0 : Nat) (0 : Nat) Option.none) r

def cellarerref20_Needed_out (r : List (List UInt8)) : List AO := (fun (r_1440 : List (List UInt8)) => [AO.row Ty.str r_1440]) r

noncomputable def cellarerref20_Needed_b0 (o0_1425 : List (List UInt8 × List UInt8 × Int × List (List (List UInt8 × List UInt8 × List UInt8)) × List (List UInt8 × List UInt8 × List UInt8) × List (List UInt8) × List (List UInt8 × List UInt8) × List (List UInt8) × List (List UInt8))) (o0_1426 : List (List UInt8 × List UInt8 × List UInt8)) (o0_1427 : List (List UInt8 × Int × Int × Int)) (o0_1428 : List (List UInt8 × List UInt8 × Bool × List UInt8 × List (List UInt8 × List UInt8) × List (List UInt8 × Int × List (List UInt8)))) (o0_1429 : List (List UInt8 × List UInt8 × Bool)) (o0_1430 : List (List UInt8 × List (List UInt8))) (o0_1431 : List (List UInt8 × List (List UInt8))) (o3_1433 : List (List UInt8 × List UInt8 × Int × List (List (List UInt8 × List UInt8 × List UInt8)) × List (List UInt8 × List UInt8 × List UInt8) × List (List UInt8) × List (List UInt8 × List UInt8) × List (List UInt8) × List (List UInt8))) (s_1441 : Int × List (List UInt8)) : Option ((Int × List (List UInt8)) ⊕ (List (List UInt8))) :=
  bif Decidable.decide (Prod.fst s_1441 < (↑(List.length o3_1433) : Int) - (↑(0 : Nat) : Int)) then
    if (0 : Int) ≤ Prod.fst s_1441 ∧ Prod.fst s_1441 + (↑(0 : Nat) : Int) < (↑(List.length o3_1433) : Int) then
      if (0 : Nat) + Int.toNat (Prod.fst s_1441) < List.length o3_1433 then
        bif Decidable.decide ((5 : Int) ≤ Prod.fst (Prod.snd (Prod.snd (List.getD o3_1433 ((0 : Nat) + Int.toNat (Prod.fst s_1441)) ([], [], (0 : Int), [], [], [], [], [], []))))) then
          bif Decidable.decide (Prod.fst (Prod.snd (Prod.snd (List.getD o3_1433 ((0 : Nat) + Int.toNat (Prod.fst s_1441)) ([], [], (0 : Int), [], [], [], [], [], [])))) ≤ (7 : Int)) then
            (cellarerref20_Missing (List.drop (0 : Nat) o3_1433) ([]) ([]) ([]) ([]) ([]) ([]) (Prod.fst (Prod.snd (Prod.snd (Prod.snd (List.getD o3_1433 ((0 : Nat) + Int.toNat (Prod.fst s_1441)) ([], [], (0 : Int), [], [], [], [], [], []))))))).bind fun a_1434 =>
              (cellarerref20_Missing (o0_1425) (o0_1426) (o0_1427) (o0_1428) (o0_1429) (o0_1430) (o0_1431) (Prod.fst (Prod.snd (Prod.snd (Prod.snd (List.getD o3_1433 ((0 : Nat) + Int.toNat (Prod.fst s_1441)) ([], [], (0 : Int), [], [], [], [], [], []))))))).bind fun a_1435 =>
                bif Decidable.decide ((↑(List.length a_1435) : Int) - (↑(0 : Nat) : Int) < (↑(List.length a_1434) : Int) - (↑(0 : Nat) : Int)) then
                  if (List.length (Prod.snd s_1441) + List.length ((fun (x : List (Ty.T Ty.str)) => x) [Prod.fst (List.getD o3_1433 ((0 : Nat) + Int.toNat (Prod.fst s_1441)) ([], [], (0 : Int), [], [], [], [], [], []))])) * (16 : Nat) ≤ (17592186044416 : Nat) then
                    some (Sum.inl (IntKind.wrap IntKind.i64 (Prod.fst s_1441 + (1 : Int)), Prod.snd s_1441 ++ [Prod.fst (List.getD o3_1433 ((0 : Nat) + Int.toNat (Prod.fst s_1441)) ([], [], (0 : Int), [], [], [], [], [], []))]))
                  else none
                else
                  some (Sum.inl (IntKind.wrap IntKind.i64 (Prod.fst s_1441 + (1 : Int)), Prod.snd s_1441))
          else
            some (Sum.inl (IntKind.wrap IntKind.i64 (Prod.fst s_1441 + (1 : Int)), Prod.snd s_1441))
        else
          some (Sum.inl (IntKind.wrap IntKind.i64 (Prod.fst s_1441 + (1 : Int)), Prod.snd s_1441))
      else none
    else none
  else
    some (Sum.inr (Prod.snd s_1441))

noncomputable def cellarerref20_Needed (st_1404 : List (List UInt8 × List UInt8 × Int × List (List (List UInt8 × List UInt8 × List UInt8)) × List (List UInt8 × List UInt8 × List UInt8) × List (List UInt8) × List (List UInt8 × List UInt8) × List (List UInt8) × List (List UInt8))) (st_1405 : List (List UInt8 × List UInt8 × List UInt8)) (st_1406 : List (List UInt8 × Int × Int × Int)) (st_1407 : List (List UInt8 × List UInt8 × Bool × List UInt8 × List (List UInt8 × List UInt8) × List (List UInt8 × Int × List (List UInt8)))) (st_1408 : List (List UInt8 × List UInt8 × Bool)) (st_1409 : List (List UInt8 × List (List UInt8))) (st_1410 : List (List UInt8 × List (List UInt8))) (name_1411 : List UInt8) : Option (List (List UInt8)) :=
  (cellarerref08_Drop (st_1404) (name_1411)).bind fun a_1412 =>
    (iter (cellarerref20_Needed_b0 (st_1404) (st_1405) (st_1406) (st_1407) (st_1408) (st_1409) (st_1410) (a_1412)) ((0 : Int), [])).bind (fun t_1437 =>
      some (t_1437))

def cellarerlaw20_awake_res (r : Bool) : AV := (fun (r_1447 : Bool) => AV.bool r_1447) r

def cellarerlaw20_awake_out (r : Bool) : List AO := (fun (r_1447 : Bool) => []) r

noncomputable def cellarerlaw20_awake  : Option (Bool) :=
  (check_Needed ([([(97 : UInt8)], [(49 : UInt8)], (7 : Int), [], [], [], [], [], []), ([(98 : UInt8)], [(49 : UInt8)], (7 : Int), [[([(97 : UInt8)], [], [])]], [], [], [], [], [])]) ([]) ([]) ([]) ([]) ([]) ([]) ([(97 : UInt8)])).bind fun a_1443 =>
    (cellarerref02_Same (List.drop (0 : Nat) a_1443) ([[(98 : UInt8)]])).bind fun a_1444 =>
      bif a_1444 then
        (check_There ([([(97 : UInt8)], [(49 : UInt8)], (7 : Int), [], [], [], [], [], []), ([(98 : UInt8)], [(49 : UInt8)], (7 : Int), [[([(97 : UInt8)], [], [])]], [], [], [], [], [])])).bind fun a_1445 =>
          some (Decidable.decide ((↑(List.length a_1445) : Int) - (↑(0 : Nat) : Int) = (2 : Int)))
      else
        some (Bool.false)

def cellarerlaw20_CheckNeeds_res (r : Bool) : AV := (fun (r_1490 : Bool) => AV.bool r_1490) r

def cellarerlaw20_CheckNeeds_out (r : Bool) : List AO := (fun (r_1490 : Bool) => []) r

noncomputable def cellarerlaw20_CheckNeeds (st_1451 : List (List UInt8 × List UInt8 × Int × List (List (List UInt8 × List UInt8 × List UInt8)) × List (List UInt8 × List UInt8 × List UInt8) × List (List UInt8) × List (List UInt8 × List UInt8) × List (List UInt8) × List (List UInt8))) (st_1452 : List (List UInt8 × List UInt8 × List UInt8)) (st_1453 : List (List UInt8 × Int × Int × Int)) (st_1454 : List (List UInt8 × List UInt8 × Bool × List UInt8 × List (List UInt8 × List UInt8) × List (List UInt8 × Int × List (List UInt8)))) (st_1455 : List (List UInt8 × List UInt8 × Bool)) (st_1456 : List (List UInt8 × List (List UInt8))) (st_1457 : List (List UInt8 × List (List UInt8))) (x_1458 : List UInt8) (x_1459 : List UInt8) (x_1460 : List (List (List UInt8 × List UInt8 × List UInt8))) (x_1461 : List (List UInt8 × List UInt8 × List UInt8)) (x_1462 : List (List UInt8)) (x_1463 : List (List UInt8 × Int × (Int × Int × Int) × List UInt8 × Bool)) (x_1464 : List (List UInt8 × List UInt8 × Bool)) (x_1465 : List (Int × List UInt8 × List UInt8 × List UInt8 × (Int × Int × Int) × Int × Bool × Bool × List (List UInt8 × List UInt8) × List (List UInt8))) (x_1466 : List (Int × List UInt8 × List UInt8 × List UInt8 × (Int × Int × Int) × Int × Bool × Bool × List (List UInt8 × List UInt8) × List (List UInt8))) (x_1467 : List (Int × List UInt8 × List UInt8 × List UInt8 × (Int × Int × Int) × Int × Bool × Bool × List (List UInt8 × List UInt8) × List (List UInt8))) (x_1468 : List (Int × List UInt8 × List UInt8 × List UInt8 × (Int × Int × Int) × Int × Bool × Bool × List (List UInt8 × List UInt8) × List (List UInt8))) (name_1469 : List UInt8) : Option (Bool) :=
  Option.bind (α := Bool ⊕ Unit) (
    (cellarerlaw20_few (st_1451) (st_1452) (st_1453) (st_1454) (st_1455) (st_1456) (st_1457)).bind fun a_1470 =>
      bif !a_1470 then
        (cellarerlaw20_awake ).bind fun a_1471 =>
          some (Sum.inl (a_1471))
      else
        (cellarerlaw19_Few (x_1458) (x_1459) (x_1460) (x_1461) (x_1462) (x_1463) (x_1464) (x_1465) (x_1466) (x_1467) (x_1468)).bind fun a_1472 =>
          bif !a_1472 then
            (cellarerlaw20_awake ).bind fun a_1473 =>
              some (Sum.inl (a_1473))
          else
            bif Decidable.decide ((300 : Int) < (↑(List.length name_1469) : Int)) then
              (cellarerlaw20_awake ).bind fun a_1474 =>
                some (Sum.inl (a_1474))
            else
              some (Sum.inr ())) (Sum.elim (fun t_1476 =>
    some (t_1476)) (fun t_1477 =>
    (check_There (st_1451)).bind fun a_1478 =>
      (cellarerref20_There (st_1451)).bind fun a_1479 =>
        (cellarerref07_SameList (List.drop (0 : Nat) a_1478) (List.drop (0 : Nat) a_1479)).bind fun a_1480 =>
          bif a_1480 then
            (check_Missing (st_1451) (st_1452) (st_1453) (st_1454) (st_1455) (st_1456) (st_1457) (x_1460)).bind fun a_1481 =>
              (cellarerref20_Missing (st_1451) (st_1452) (st_1453) (st_1454) (st_1455) (st_1456) (st_1457) (x_1460)).bind fun a_1482 =>
                (cellarerlaw20_ints (List.drop (0 : Nat) a_1481) (List.drop (0 : Nat) a_1482)).bind fun a_1483 =>
                  bif a_1483 then
                    (check_Needed (st_1451) (st_1452) (st_1453) (st_1454) (st_1455) (st_1456) (st_1457) (name_1469)).bind fun a_1484 =>
                      (cellarerref20_Needed (st_1451) (st_1452) (st_1453) (st_1454) (st_1455) (st_1456) (st_1457) (name_1469)).bind fun a_1485 =>
                        (cellarerref02_Same (List.drop (0 : Nat) a_1484) (List.drop (0 : Nat) a_1485)).bind fun a_1486 =>
                          bif a_1486 then
                            (cellarerlaw20_awake ).bind fun a_1487 =>
                              some (a_1487)
                          else
                            some (Bool.false)
                  else
                    some (Bool.false)
          else
            some (Bool.false)))

def cellarerlaw20_CheckConflicts_res (r : Bool) : AV := (fun (r_1524 : Bool) => AV.bool r_1524) r

def cellarerlaw20_CheckConflicts_out (r : Bool) : List AO := (fun (r_1524 : Bool) => []) r

noncomputable def cellarerlaw20_CheckConflicts (st_1493 : List (List UInt8 × List UInt8 × Int × List (List (List UInt8 × List UInt8 × List UInt8)) × List (List UInt8 × List UInt8 × List UInt8) × List (List UInt8) × List (List UInt8 × List UInt8) × List (List UInt8) × List (List UInt8))) (st_1494 : List (List UInt8 × List UInt8 × List UInt8)) (st_1495 : List (List UInt8 × Int × Int × Int)) (st_1496 : List (List UInt8 × List UInt8 × Bool × List UInt8 × List (List UInt8 × List UInt8) × List (List UInt8 × Int × List (List UInt8)))) (st_1497 : List (List UInt8 × List UInt8 × Bool)) (st_1498 : List (List UInt8 × List (List UInt8))) (st_1499 : List (List UInt8 × List (List UInt8))) (x_1500 : List UInt8) (x_1501 : List UInt8) (x_1502 : List (List (List UInt8 × List UInt8 × List UInt8))) (x_1503 : List (List UInt8 × List UInt8 × List UInt8)) (x_1504 : List (List UInt8)) (x_1505 : List (List UInt8 × Int × (Int × Int × Int) × List UInt8 × Bool)) (x_1506 : List (List UInt8 × List UInt8 × Bool)) (x_1507 : List (Int × List UInt8 × List UInt8 × List UInt8 × (Int × Int × Int) × Int × Bool × Bool × List (List UInt8 × List UInt8) × List (List UInt8))) (x_1508 : List (Int × List UInt8 × List UInt8 × List UInt8 × (Int × Int × Int) × Int × Bool × Bool × List (List UInt8 × List UInt8) × List (List UInt8))) (x_1509 : List (Int × List UInt8 × List UInt8 × List UInt8 × (Int × Int × Int) × Int × Bool × Bool × List (List UInt8 × List UInt8) × List (List UInt8))) (x_1510 : List (Int × List UInt8 × List UInt8 × List UInt8 × (Int × Int × Int) × Int × Bool × Bool × List (List UInt8 × List UInt8) × List (List UInt8))) : Option (Bool) :=
  Option.bind (α := Bool ⊕ Unit) (
    (cellarerlaw20_few (st_1493) (st_1494) (st_1495) (st_1496) (st_1497) (st_1498) (st_1499)).bind fun a_1511 =>
      bif !a_1511 then
        (cellarerlaw20_awake ).bind fun a_1512 =>
          some (Sum.inl (a_1512))
      else
        (cellarerlaw19_Few (x_1500) (x_1501) (x_1502) (x_1503) (x_1504) (x_1505) (x_1506) (x_1507) (x_1508) (x_1509) (x_1510)).bind fun a_1513 =>
          bif !a_1513 then
            (cellarerlaw20_awake ).bind fun a_1514 =>
              some (Sum.inl (a_1514))
          else
            some (Sum.inr ())) (Sum.elim (fun t_1516 =>
    some (t_1516)) (fun t_1517 =>
    (check_Conflicts (st_1493) (st_1494) (st_1495) (st_1496) (st_1497) (st_1498) (st_1499) (x_1500) (x_1501) (x_1502) (x_1503) (x_1504) (x_1505) (x_1506) (x_1507) (x_1508) (x_1509) (x_1510)).bind fun a_1518 =>
      (cellarerref20_Conflicts (st_1493) (st_1494) (st_1495) (st_1496) (st_1497) (st_1498) (st_1499) (x_1500) (x_1501) (x_1502) (x_1503) (x_1504) (x_1505) (x_1506) (x_1507) (x_1508) (x_1509) (x_1510)).bind fun a_1519 =>
        (cellarerref02_Same (List.drop (0 : Nat) a_1518) (List.drop (0 : Nat) a_1519)).bind fun a_1520 =>
          bif a_1520 then
            (cellarerlaw20_awake ).bind fun a_1521 =>
              some (a_1521)
          else
            some (Bool.false)))

end Go.Cellar
