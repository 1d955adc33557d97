/- The program's functions, as plain Lean functions: printed by a program out of the translation. No condition. -/
import Derived.Test.YtjdjmbogopadaaaGreatDoorCon12b
import Derived.Test.YtjdjmbogopadaaaGreatDoorAbs31
set_option maxRecDepth 4000
set_option synthInstance.maxHeartbeats 2000000
set_option synthInstance.maxSize 100000
set_option linter.unusedVariables false
namespace Go.Cellar
open Go

def cellarerlaw12_FewFired_res (r : Bool) : AV := (fun (r_20 : Bool) => AV.bool r_20) r

def cellarerlaw12_FewFired_out (r : Bool) : List AO := (fun (r_20 : Bool) => []) r

noncomputable def cellarerlaw12_FewFired_b0 (l_7 : List (List UInt8 × List (List UInt8))) (i_9 : Int) (s_22 : Int × Int) : Option ((Int × Int) ⊕ (Unit ⊕ Int)) :=
  if (0 : Int) ≤ i_9 ∧ i_9 < (↑(List.length l_7) : Int) then
    bif Decidable.decide (Prod.snd s_22 < (↑(List.length (Prod.snd (List.getD l_7 (Int.toNat i_9) ([], [])))) : Int)) then
      if (0 : Int) ≤ i_9 ∧ i_9 < (↑(List.length l_7) : Int) then
        if (0 : Int) ≤ Prod.snd s_22 ∧ Prod.snd s_22 < (↑(List.length (Prod.snd (List.getD l_7 (Int.toNat i_9) ([], [])))) : Int) then
          bif Decidable.decide ((3000 : Int) < IntKind.wrap IntKind.i64 (Prod.fst s_22 + IntKind.wrap IntKind.i64 ((1 : Int) + if (3000 : Int) < (↑(List.length (List.getD (Prod.snd (List.getD l_7 (Int.toNat i_9) ([], []))) (Int.toNat (Prod.snd s_22)) [])) : Int) then (3000 : Int) else (↑(List.length (List.getD (Prod.snd (List.getD l_7 (Int.toNat i_9) ([], []))) (Int.toNat (Prod.snd s_22)) [])) : Int)))) then
            some (Sum.inr (Sum.inl ()))
          else
            some (Sum.inl (IntKind.wrap IntKind.i64 (Prod.fst s_22 + IntKind.wrap IntKind.i64 ((1 : Int) + if (3000 : Int) < (↑(List.length (List.getD (Prod.snd (List.getD l_7 (Int.toNat i_9) ([], []))) (Int.toNat (Prod.snd s_22)) [])) : Int) then (3000 : Int) else (↑(List.length (List.getD (Prod.snd (List.getD l_7 (Int.toNat i_9) ([], []))) (Int.toNat (Prod.snd s_22)) [])) : Int))), IntKind.wrap IntKind.i64 (Prod.snd s_22 + (1 : Int))))
        else none
      else none
    else
      some (Sum.inr (Sum.inr (Prod.fst s_22)))
  else none

noncomputable def cellarerlaw12_FewFired_b1 (l_2 : List (List UInt8 × List (List UInt8))) (s_21 : Int × Int) : Option ((Int × Int) ⊕ (Unit ⊕ Unit)) :=
  bif Decidable.decide (Prod.snd s_21 < (↑(List.length l_2) : Int)) then
    Option.bind (α := Unit ⊕ Unit) (
      if (0 : Int) ≤ Prod.snd s_21 ∧ Prod.snd s_21 < (↑(List.length l_2) : Int) then
        bif Decidable.decide ((300 : Int) < (↑(List.length (Prod.fst (List.getD l_2 (Int.toNat (Prod.snd s_21)) ([], [])))) : Int)) then
          some (Sum.inl ())
        else
          if (0 : Int) ≤ Prod.snd s_21 ∧ Prod.snd s_21 < (↑(List.length l_2) : Int) then
            bif Decidable.decide ((70 : Int) < (↑(List.length (Prod.snd (List.getD l_2 (Int.toNat (Prod.snd s_21)) ([], [])))) : Int)) then
              some (Sum.inl ())
            else
              some (Sum.inr ())
          else none
      else none) (Sum.elim (fun t_5 =>
      some (Sum.inr (Sum.inl ()))) (fun t_6 =>
      (iter (cellarerlaw12_FewFired_b0 (l_2) (Prod.snd s_21)) (Prod.fst s_21, (0 : Int))).bind (Sum.elim (fun t_11 =>
        some (Sum.inr (Sum.inl ()))) (fun t_13 =>
        some (Sum.inl (t_13, IntKind.wrap IntKind.i64 (Prod.snd s_21 + (1 : Int))))))))
  else
    some (Sum.inr (Sum.inr ()))

noncomputable def cellarerlaw12_FewFired (l_1 : List (List UInt8 × List (List UInt8))) : Option (Bool) :=
  bif Decidable.decide ((70 : Int) < (↑(List.length l_1) : Int)) then
    some (Bool.false)
  else
    (iter (cellarerlaw12_FewFired_b1 (l_1)) ((0 : Int), (0 : Int))).bind (Sum.elim (fun t_16 =>
      some (Bool.false)) (fun t_17 =>
      some (Bool.true)))

def cellarerref08_Names_res (r : Bool) : AV := (fun (r_44 : Bool) => AV.bool r_44) r

def cellarerref08_Names_out (r : Bool) : List AO := (fun (r_44 : Bool) => []) r

noncomputable def cellarerref08_Names_b0 (l_37 : List (List UInt8)) (s_45 : Int) : Option ((Int) ⊕ (Unit ⊕ Unit)) :=
  bif Decidable.decide (s_45 < (↑(List.length l_37) : Int)) then
    if (0 : Int) ≤ s_45 ∧ s_45 < (↑(List.length l_37) : Int) then
      (cellarerref02_Name (List.getD l_37 (Int.toNat s_45) [])).bind fun a_39 =>
        bif !a_39 then
          some (Sum.inr (Sum.inl ()))
        else
          some (Sum.inl (IntKind.wrap IntKind.i64 (s_45 + (1 : Int))))
    else none
  else
    some (Sum.inr (Sum.inr ()))

noncomputable def cellarerref08_Names (l_36 : List (List UInt8)) : Option (Bool) :=
  (iter (cellarerref08_Names_b0 (l_36)) ((0 : Int))).bind (Sum.elim (fun t_40 =>
    some (Bool.false)) (fun t_41 =>
    some (Decidable.decide ((↑(List.length l_36) : Int) ≤ (64 : Int)))))

def cellarerref08_Rising_res (r : Bool) : AV := (fun (r_55 : Bool) => AV.bool r_55) r

def cellarerref08_Rising_out (r : Bool) : List AO := (fun (r_55 : Bool) => []) r

noncomputable def cellarerref08_Rising_b0 (l_49 : List (List UInt8)) (s_56 : Int) : Option ((Int) ⊕ (Unit ⊕ Unit)) :=
  bif Decidable.decide (s_56 < (↑(List.length l_49) : Int)) then
    if (0 : Int) ≤ IntKind.wrap IntKind.i64 (s_56 - (1 : Int)) ∧ IntKind.wrap IntKind.i64 (s_56 - (1 : Int)) < (↑(List.length l_49) : Int) then
      if (0 : Int) ≤ s_56 ∧ s_56 < (↑(List.length l_49) : Int) then
        bif !Go.Op.bytesLess (List.getD l_49 (Int.toNat (IntKind.wrap IntKind.i64 (s_56 - (1 : Int)))) []) (List.getD l_49 (Int.toNat s_56) []) then
          some (Sum.inr (Sum.inl ()))
        else
          some (Sum.inl (IntKind.wrap IntKind.i64 (s_56 + (1 : Int))))
      else none
    else none
  else
    some (Sum.inr (Sum.inr ()))

noncomputable def cellarerref08_Rising (l_48 : List (List UInt8)) : Option (Bool) :=
  (iter (cellarerref08_Rising_b0 (l_48)) ((1 : Int))).bind (Sum.elim (fun t_51 =>
    some (Bool.false)) (fun t_52 =>
    some (Decidable.decide ((↑(List.length l_48) : Int) ≤ (64 : Int)))))

def cellarerref12_CheckFired_res (r : Int) : AV := (fun (r_64 : Int) => AV.int IntKind.i64 r_64) r

def cellarerref12_CheckFired_out (r : Int) : List AO := (fun (r_64 : Int) => []) r

noncomputable def cellarerref12_CheckFired_b0 (l_29 : List (List UInt8 × List (List UInt8))) (s_65 : Int) : Option ((Int) ⊕ (Unit ⊕ Unit)) :=
  bif Decidable.decide (s_65 < (↑(List.length l_29) : Int)) then
    if (0 : Int) ≤ s_65 ∧ s_65 < (↑(List.length l_29) : Int) then
      bif Decidable.decide ((64 : Int) < (↑(List.length (Prod.snd (List.getD l_29 (Int.toNat s_65) ([], [])))) : Int)) then
        some (Sum.inr (Sum.inl ()))
      else
        some (Sum.inl (IntKind.wrap IntKind.i64 (s_65 + (1 : Int))))
    else none
  else
    some (Sum.inr (Sum.inr ()))

noncomputable def cellarerref12_CheckFired_b1 (l_33 : List (List UInt8 × List (List UInt8))) (s_66 : Int) : Option ((Int) ⊕ (Unit ⊕ Unit)) :=
  bif Decidable.decide (s_66 < (↑(List.length l_33) : Int)) then
    if (0 : Int) ≤ s_66 ∧ s_66 < (↑(List.length l_33) : Int) then
      (cellarerref08_Trigger (Prod.fst (List.getD l_33 (Int.toNat s_66) ([], [])))).bind fun a_35 =>
        bif !a_35 then
          some (Sum.inr (Sum.inl ()))
        else
          if (0 : Int) ≤ s_66 ∧ s_66 < (↑(List.length l_33) : Int) then
            (cellarerref08_Names (Prod.snd (List.getD l_33 (Int.toNat s_66) ([], [])))).bind fun a_47 =>
              bif !a_47 then
                some (Sum.inr (Sum.inl ()))
              else
                if (0 : Int) ≤ s_66 ∧ s_66 < (↑(List.length l_33) : Int) then
                  (cellarerref08_Rising (Prod.snd (List.getD l_33 (Int.toNat s_66) ([], [])))).bind fun a_58 =>
                    bif !a_58 then
                      some (Sum.inr (Sum.inl ()))
                    else
                      bif Decidable.decide ((0 : Int) < s_66) then
                        if (0 : Int) ≤ IntKind.wrap IntKind.i64 (s_66 - (1 : Int)) ∧ IntKind.wrap IntKind.i64 (s_66 - (1 : Int)) < (↑(List.length l_33) : Int) then
                          if (0 : Int) ≤ s_66 ∧ s_66 < (↑(List.length l_33) : Int) then
                            bif !Go.Op.bytesLess (Prod.fst (List.getD l_33 (Int.toNat (IntKind.wrap IntKind.i64 (s_66 - (1 : Int)))) ([], []))) (Prod.fst (List.getD l_33 (Int.toNat s_66) ([], []))) then
                              some (Sum.inr (Sum.inl ()))
                            else
                              some (Sum.inl (IntKind.wrap IntKind.i64 (s_66 + (1 : Int))))
                          else none
                        else none
                      else
                        some (Sum.inl (IntKind.wrap IntKind.i64 (s_66 + (1 : Int))))
                else none
          else none
    else none
  else
    some (Sum.inr (Sum.inr ()))

noncomputable def cellarerref12_CheckFired (l_28 : List (List UInt8 × List (List UInt8))) : Option (Int) :=
  (iter (cellarerref12_CheckFired_b0 (l_28)) ((0 : Int))).bind (Sum.elim (fun t_31 =>
    some ((22 : Int))) (fun t_32 =>
    bif Decidable.decide ((64 : Int) < (↑(List.length l_28) : Int)) then
      some ((22 : Int))
    else
      (iter (cellarerref12_CheckFired_b1 (l_28)) ((0 : Int))).bind (Sum.elim (fun t_59 =>
        some ((1 : Int))) (fun t_60 =>
        some ((0 : Int))))))

def cellarerref12_PrintFired_res (r : List UInt8 × Int) : AV := (fun (r_87 : List UInt8 × Int) => AV.tup [AV.str (Prod.fst r_87), AV.int IntKind.i64 (Prod.snd r_87)]) r

def cellarerref12_PrintFired_out (r : List UInt8 × Int) : List AO := (fun (r_87 : List UInt8 × Int) => []) r

noncomputable def cellarerref12_PrintFired_b0 (l_75 : List (List UInt8 × List (List UInt8))) (i_77 : Int) (s_89 : List UInt8 × Int) : Option ((List UInt8 × Int) ⊕ (List UInt8)) :=
  if (0 : Int) ≤ i_77 ∧ i_77 < (↑(List.length l_75) : Int) then
    bif Decidable.decide (Prod.snd s_89 < (↑(List.length (Prod.snd (List.getD l_75 (Int.toNat i_77) ([], [])))) : Int)) then
      if List.length (Prod.fst s_89) + List.length ((fun (x : List UInt8) => x) [(32 : UInt8)]) ≤ (140737488355328 : Nat) then
        if (0 : Int) ≤ i_77 ∧ i_77 < (↑(List.length l_75) : Int) then
          if (0 : Int) ≤ Prod.snd s_89 ∧ Prod.snd s_89 < (↑(List.length (Prod.snd (List.getD l_75 (Int.toNat i_77) ([], [])))) : Int) then
            if List.length (Prod.fst s_89 ++ [(32 : UInt8)]) + List.length (List.getD (Prod.snd (List.getD l_75 (Int.toNat i_77) ([], []))) (Int.toNat (Prod.snd s_89)) []) ≤ (140737488355328 : Nat) then
              some (Sum.inl (Prod.fst s_89 ++ [(32 : UInt8)] ++ List.getD (Prod.snd (List.getD l_75 (Int.toNat i_77) ([], []))) (Int.toNat (Prod.snd s_89)) [], IntKind.wrap IntKind.i64 (Prod.snd s_89 + (1 : Int))))
            else none
          else none
        else none
      else none
    else
      some (Sum.inr (Prod.fst s_89))
  else none

noncomputable def cellarerref12_PrintFired_b1 (l_72 : List (List UInt8 × List (List UInt8))) (s_88 : List UInt8 × Int) : Option ((List UInt8 × Int) ⊕ (List UInt8)) :=
  bif Decidable.decide (Prod.snd s_88 < (↑(List.length l_72) : Int)) then
    if (0 : Int) ≤ Prod.snd s_88 ∧ Prod.snd s_88 < (↑(List.length l_72) : Int) then
      if List.length (Prod.fst s_88) + List.length (Prod.fst (List.getD l_72 (Int.toNat (Prod.snd s_88)) ([], []))) ≤ (140737488355328 : Nat) then
        (iter (cellarerref12_PrintFired_b0 (l_72) (Prod.snd s_88)) (Prod.fst s_88 ++ Prod.fst (List.getD l_72 (Int.toNat (Prod.snd s_88)) ([], [])), (0 : Int))).bind (fun t_80 =>
          if (0 : Int) ≤ Prod.snd s_88 ∧ Prod.snd s_88 < (↑(List.length l_72) : Int) then
            bif Decidable.decide ((↑(List.length (Prod.snd (List.getD l_72 (Int.toNat (Prod.snd s_88)) ([], [])))) : Int) = (0 : Int)) then
              if List.length t_80 + List.length ((fun (x : List UInt8) => x) [(32 : UInt8), (45 : UInt8)]) ≤ (140737488355328 : Nat) then
                if List.length (t_80 ++ [(32 : UInt8), (45 : UInt8)]) + List.length ((fun (x : List UInt8) => x) [(10 : UInt8)]) ≤ (140737488355328 : Nat) then
                  some (Sum.inl (t_80 ++ [(32 : UInt8), (45 : UInt8)] ++ [(10 : UInt8)], IntKind.wrap IntKind.i64 (Prod.snd s_88 + (1 : Int))))
                else none
              else none
            else
              if List.length t_80 + List.length ((fun (x : List UInt8) => x) [(10 : UInt8)]) ≤ (140737488355328 : Nat) then
                some (Sum.inl (t_80 ++ [(10 : UInt8)], IntKind.wrap IntKind.i64 (Prod.snd s_88 + (1 : Int))))
              else none
          else none)
      else none
    else none
  else
    some (Sum.inr (Prod.fst s_88))

noncomputable def cellarerref12_PrintFired (l_70 : List (List UInt8 × List (List UInt8))) : Option (List UInt8 × Int) :=
  (cellarerref12_CheckFired (l_70)).bind fun a_71 =>
    bif !Decidable.decide (a_71 = (0 : Int)) then
      some ([], a_71)
    else
      (iter (cellarerref12_PrintFired_b1 (l_70)) ([], (0 : Int))).bind (fun t_83 =>
        some (t_83, (0 : Int)))

def trigs_ParseFired_res (r : Int × List (List UInt8 × List (List UInt8))) : AV := (fun (r_121 : Int × List (List UInt8 × List (List UInt8))) => AV.tup [AV.view (0 : Nat) (0 : Nat) Option.none, AV.int IntKind.i64 (Prod.fst r_121)]) r

def trigs_ParseFired_out (r : Int × List (List UInt8 × List (List UInt8))) : List AO := (fun (r_121 : Int × List (List UInt8 × List (List UInt8))) => [AO.row (Ty.prod Ty.str (Ty.list Ty.str)) (Prod.snd r_121)]) r

noncomputable def trigs_ParseFired_b0 (t_104 : Int) (o1_107 : List (List UInt8)) (s_122 : Int × List (List UInt8 × List (List UInt8))) : Option ((Int × List (List UInt8 × List (List UInt8))) ⊕ (Unit ⊕ List (List UInt8 × List (List UInt8)))) :=
  bif Decidable.decide (Prod.fst s_122 < t_104) then
    if (0 : Int) ≤ Prod.fst s_122 ∧ Prod.fst s_122 + (↑(0 : Nat) : Int) < (↑(List.length o1_107) : Int) then
      if (0 : Nat) + Int.toNat (Prod.fst s_122) < List.length o1_107 then
        (strings_Split (List.getD o1_107 ((0 : Nat) + Int.toNat (Prod.fst s_122)) []) ([(32 : UInt8)])).bind fun a_108 =>
          Option.bind (α := Unit ⊕ List (List UInt8)) (
            bif Decidable.decide ((↑(List.length a_108) : Int) < (2 : Int)) then
              some (Sum.inl ())
            else
              bif Decidable.decide ((↑(List.length a_108) : Int) = (2 : Int)) then
                if (0 : Int) ≤ (1 : Int) ∧ (1 : Int) < (↑(List.length a_108) : Int) then
                  bif Decidable.decide (List.getD a_108 (Int.toNat (1 : Int)) [] = [(45 : UInt8)]) then
                    if (0 : Int) ≤ (0 : Int) ∧ (0 : Int) ≤ (1 : Int) ∧ (1 : Int) ≤ (↑(List.length a_108) : Int) then
                      some (Sum.inr (List.drop (Int.toNat (0 : Int)) (List.take (Int.toNat (1 : Int)) a_108)))
                    else none
                  else
                    some (Sum.inr (a_108))
                else none
              else
                some (Sum.inr (a_108))) (Sum.elim (fun t_109 =>
            some (Sum.inr (Sum.inl ()))) (fun t_111 =>
            if (0 : Int) ≤ (0 : Int) ∧ (0 : Int) < (↑(List.length t_111) : Int) then
              if (0 : Int) ≤ (1 : Int) ∧ (1 : Int) ≤ (↑(List.length t_111) : Int) ∧ (↑(List.length t_111) : Int) ≤ (↑(List.length t_111) : Int) then
                (slices_Clone___string_string_ (List.drop (Int.toNat (1 : Int)) (List.take (Int.toNat (↑(List.length t_111) : Int)) t_111))).bind fun a_112 =>
                  if (List.length (Prod.snd s_122) + List.length ((fun (x : List (Ty.T (Ty.prod Ty.str (Ty.list Ty.str)))) => x) [(List.getD t_111 (Int.toNat (0 : Int)) [], a_112)])) * (40 : Nat) ≤ (17592186044416 : Nat) then
                    some (Sum.inl (IntKind.wrap IntKind.i64 (Prod.fst s_122 + (1 : Int)), Prod.snd s_122 ++ [(List.getD t_111 (Int.toNat (0 : Int)) [], a_112)]))
                  else none
              else none
            else none))
      else none
    else none
  else
    some (Sum.inr (Sum.inr (Prod.snd s_122)))

noncomputable def trigs_ParseFired (s_93 : List UInt8) : Option (Int × List (List UInt8 × List (List UInt8))) :=
  (stanza_Lines (s_93)).bind fun a_94 =>
    bif !Decidable.decide (Prod.fst a_94 = (0 : Int)) then
      some (Prod.fst a_94, [])
    else
      (iter (trigs_ParseFired_b0 ((↑(List.length (Prod.snd a_94)) : Int) - (↑(0 : Nat) : Int)) (Prod.snd a_94)) ((0 : Int), [])).bind (Sum.elim (fun t_114 =>
        some ((2 : Int), [])) (fun t_116 =>
        (trigs_CheckFired (List.drop (0 : Nat) t_116)).bind fun a_117 =>
          bif !Decidable.decide (a_117 = (0 : Int)) then
            some ((2 : Int), [])
          else
            some ((0 : Int), t_116)))

def cellarerref12_SameFired_res (r : Bool) : AV := (fun (r_136 : Bool) => AV.bool r_136) r

def cellarerref12_SameFired_out (r : Bool) : List AO := (fun (r_136 : Bool) => []) r

noncomputable def cellarerref12_SameFired_b0 (a_128 : List (List UInt8 × List (List UInt8))) (b_129 : List (List UInt8 × List (List UInt8))) (s_137 : Int) : Option ((Int) ⊕ (Unit ⊕ Unit)) :=
  bif Decidable.decide (s_137 < (↑(List.length a_128) : Int)) then
    if (0 : Int) ≤ s_137 ∧ s_137 < (↑(List.length a_128) : Int) then
      if (0 : Int) ≤ s_137 ∧ s_137 < (↑(List.length b_129) : Int) then
        bif !Decidable.decide (Prod.fst (List.getD a_128 (Int.toNat s_137) ([], [])) = Prod.fst (List.getD b_129 (Int.toNat s_137) ([], []))) then
          some (Sum.inr (Sum.inl ()))
        else
          if (0 : Int) ≤ s_137 ∧ s_137 < (↑(List.length a_128) : Int) then
            if (0 : Int) ≤ s_137 ∧ s_137 < (↑(List.length b_129) : Int) then
              (cellarerref02_Same (Prod.snd (List.getD a_128 (Int.toNat s_137) ([], []))) (Prod.snd (List.getD b_129 (Int.toNat s_137) ([], [])))).bind fun a_131 =>
                bif !a_131 then
                  some (Sum.inr (Sum.inl ()))
                else
                  some (Sum.inl (IntKind.wrap IntKind.i64 (s_137 + (1 : Int))))
            else none
          else none
      else none
    else none
  else
    some (Sum.inr (Sum.inr ()))

noncomputable def cellarerref12_SameFired (a_126 : List (List UInt8 × List (List UInt8))) (b_127 : List (List UInt8 × List (List UInt8))) : Option (Bool) :=
  bif !Decidable.decide ((↑(List.length a_126) : Int) = (↑(List.length b_127) : Int)) then
    some (Bool.false)
  else
    (iter (cellarerref12_SameFired_b0 (a_126) (b_127)) ((0 : Int))).bind (Sum.elim (fun t_132 =>
      some (Bool.false)) (fun t_133 =>
      some (Bool.true)))

def cellarerlaw12_TrigsFired_res (r : Bool) : AV := (fun (r_155 : Bool) => AV.bool r_155) r

def cellarerlaw12_TrigsFired_out (r : Bool) : List AO := (fun (r_155 : Bool) => []) r

noncomputable def cellarerlaw12_TrigsFired (l_140 : List (List UInt8 × List (List UInt8))) : Option (Bool) :=
  (cellarerlaw12_FewFired (l_140)).bind fun a_141 =>
    bif !a_141 then
      (cellarerlaw12_awake ).bind fun a_142 =>
        some (a_142)
    else
      (trigs_PrintFired (l_140)).bind fun a_143 =>
        (cellarerref12_PrintFired (l_140)).bind fun a_144 =>
          Option.bind (α := Unit ⊕ Unit) (
            bif !Decidable.decide (Prod.fst a_143 = Prod.fst a_144) then
              some (Sum.inl ())
            else
              bif !Decidable.decide (Prod.snd a_143 = Prod.snd a_144) then
                some (Sum.inl ())
              else
                (trigs_CheckFired (l_140)).bind fun a_145 =>
                  (cellarerref12_CheckFired (l_140)).bind fun a_146 =>
                    bif !Decidable.decide (a_145 = a_146) then
                      some (Sum.inl ())
                    else
                      some (Sum.inr ())) (Sum.elim (fun t_147 =>
            some (Bool.false)) (fun t_148 =>
            bif !Decidable.decide (Prod.snd a_143 = (0 : Int)) then
              (cellarerlaw12_awake ).bind fun a_149 =>
                some (a_149)
            else
              (trigs_ParseFired (Prod.fst a_143)).bind fun a_150 =>
                bif Decidable.decide (Prod.fst a_150 = (0 : Int)) then
                  (cellarerref12_SameFired (List.drop (0 : Nat) (Prod.snd a_150)) (l_140)).bind fun a_151 =>
                    bif a_151 then
                      (cellarerlaw12_awake ).bind fun a_152 =>
                        some (a_152)
                    else
                      some (Bool.false)
                else
                  some (Bool.false)))

def cellarerref06_Split_res (r : List (List UInt8)) : AV := (fun (r_175 : List (List UInt8)) => AV.view (0 : Nat) (0 : Nat) Option.none) r

def cellarerref06_Split_out (r : List (List UInt8)) : List AO := (fun (r_175 : List (List UInt8)) => [AO.row Ty.str r_175]) r

noncomputable def cellarerref06_Split_b0 (s_165 : List UInt8) (c_166 : Int) (s_176 : List UInt8 × Int × List (List UInt8)) : Option ((List UInt8 × Int × List (List UInt8)) ⊕ (List UInt8 × List (List UInt8))) :=
  bif Decidable.decide (Prod.fst (Prod.snd s_176) < (↑(List.length s_165) : Int)) then
    if (0 : Int) ≤ Prod.fst (Prod.snd s_176) ∧ Prod.fst (Prod.snd s_176) < (↑(List.length s_165) : Int) then
      bif Decidable.decide ((↑(UInt8.toNat (List.getD s_165 (Int.toNat (Prod.fst (Prod.snd s_176))) (0 : UInt8))) : Int) = c_166) then
        if (List.length (Prod.snd (Prod.snd s_176)) + List.length ((fun (x : List (Ty.T Ty.str)) => x) [Prod.fst s_176])) * (16 : Nat) ≤ (17592186044416 : Nat) then
          some (Sum.inl ([], IntKind.wrap IntKind.i64 (Prod.fst (Prod.snd s_176) + (1 : Int)), Prod.snd (Prod.snd s_176) ++ [Prod.fst s_176]))
        else none
      else
        if (0 : Int) ≤ Prod.fst (Prod.snd s_176) ∧ Prod.fst (Prod.snd s_176) ≤ IntKind.wrap IntKind.i64 (Prod.fst (Prod.snd s_176) + (1 : Int)) ∧ IntKind.wrap IntKind.i64 (Prod.fst (Prod.snd s_176) + (1 : Int)) ≤ (↑(List.length s_165) : Int) then
          if List.length (Prod.fst s_176) + List.length (List.drop (Int.toNat (Prod.fst (Prod.snd s_176))) (List.take (Int.toNat (IntKind.wrap IntKind.i64 (Prod.fst (Prod.snd s_176) + (1 : Int)))) s_165)) ≤ (140737488355328 : Nat) then
            some (Sum.inl (Prod.fst s_176 ++ List.drop (Int.toNat (Prod.fst (Prod.snd s_176))) (List.take (Int.toNat (IntKind.wrap IntKind.i64 (Prod.fst (Prod.snd s_176) + (1 : Int)))) s_165), IntKind.wrap IntKind.i64 (Prod.fst (Prod.snd s_176) + (1 : Int)), Prod.snd (Prod.snd s_176)))
          else none
        else none
    else none
  else
    some (Sum.inr (Prod.fst s_176, Prod.snd (Prod.snd s_176)))

noncomputable def cellarerref06_Split (s_159 : List UInt8) (c_160 : Int) : Option (List (List UInt8)) :=
  (iter (cellarerref06_Split_b0 (s_159) (c_160)) ([], (0 : Int), [])).bind (fun t_172 =>
    if (List.length (Prod.snd t_172) + List.length ((fun (x : List (Ty.T Ty.str)) => x) [Prod.fst t_172])) * (16 : Nat) ≤ (17592186044416 : Nat) then
      some (Prod.snd t_172 ++ [Prod.fst t_172])
    else none)

def cellarerref06_Lines_res (r : Bool × List (List UInt8)) : AV := (fun (r_181 : Bool × List (List UInt8)) => AV.tup [AV.view (0 : Nat) (0 : Nat) Option.none, AV.bool (Prod.fst r_181)]) r

def cellarerref06_Lines_out (r : Bool × List (List UInt8)) : List AO := (fun (r_181 : Bool × List (List UInt8)) => [AO.row Ty.str (Prod.snd r_181)]) r

noncomputable def cellarerref06_Lines (s_158 : List UInt8) : Option (Bool × List (List UInt8)) :=
  (cellarerref06_Split (s_158) ((10 : Int))).bind fun a_178 =>
    if (0 : Int) ≤ (0 : Int) ∧ (0 : Int) ≤ IntKind.wrap IntKind.i64 ((↑(List.length a_178) : Int) - (↑(0 : Nat) : Int) - (1 : Int)) ∧ (↑(0 : Nat) : Int) + IntKind.wrap IntKind.i64 ((↑(List.length a_178) : Int) - (↑(0 : Nat) : Int) - (1 : Int)) ≤ (↑(List.length a_178) : Int) then
      if (0 : Int) ≤ IntKind.wrap IntKind.i64 ((↑(List.length a_178) : Int) - (↑(0 : Nat) : Int) - (1 : Int)) ∧ IntKind.wrap IntKind.i64 ((↑(List.length a_178) : Int) - (↑(0 : Nat) : Int) - (1 : Int)) + (↑(0 : Nat) : Int) < (↑(List.length a_178) : Int) then
        if (0 : Nat) + Int.toNat (IntKind.wrap IntKind.i64 ((↑(List.length a_178) : Int) - (↑(0 : Nat) : Int) - (1 : Int))) < List.length a_178 then
          some (Decidable.decide (List.getD a_178 ((0 : Nat) + Int.toNat (IntKind.wrap IntKind.i64 ((↑(List.length a_178) : Int) - (↑(0 : Nat) : Int) - (1 : Int)))) [] = []), List.take ((0 : Nat) + Int.toNat (IntKind.wrap IntKind.i64 ((↑(List.length a_178) : Int) - (↑(0 : Nat) : Int) - (1 : Int)))) a_178)
        else none
      else none
    else none

def cellarerref12_Parse_res (r : Bool × List (List UInt8 × List UInt8 × Bool)) : AV := (fun (r_211 : Bool × List (List UInt8 × List UInt8 × Bool)) => AV.tup [AV.view (0 : Nat) (0 : Nat) Option.none, AV.bool (Prod.fst r_211)]) r

def cellarerref12_Parse_out (r : Bool × List (List UInt8 × List UInt8 × Bool)) : List AO := (fun (r_211 : Bool × List (List UInt8 × List UInt8 × Bool)) => [AO.row (Ty.prod Ty.str (Ty.prod Ty.str Ty.bool)) (Prod.snd r_211)]) r

noncomputable def cellarerref12_Parse_b0 (o1_197 : List (List UInt8)) (s_212 : Int × List (List UInt8 × List UInt8 × Bool)) : Option ((Int × List (List UInt8 × List UInt8 × Bool)) ⊕ (Unit ⊕ List (List UInt8 × List UInt8 × Bool))) :=
  bif Decidable.decide (Prod.fst s_212 < (↑(List.length o1_197) : Int) - (↑(0 : Nat) : Int)) then
    if (0 : Int) ≤ Prod.fst s_212 ∧ Prod.fst s_212 + (↑(0 : Nat) : Int) < (↑(List.length o1_197) : Int) then
      if (0 : Nat) + Int.toNat (Prod.fst s_212) < List.length o1_197 then
        (cellarerref06_Split (List.getD o1_197 ((0 : Nat) + Int.toNat (Prod.fst s_212)) []) ((32 : Int))).bind fun a_198 =>
          bif !Decidable.decide ((↑(List.length a_198) : Int) - (↑(0 : Nat) : Int) = (2 : Int)) then
            some (Sum.inr (Sum.inl ()))
          else
            if (0 : Int) ≤ (0 : Int) ∧ (0 : Int) + (↑(0 : Nat) : Int) < (↑(List.length a_198) : Int) then
              if (0 : Nat) < List.length a_198 then
                if (0 : Int) ≤ (1 : Int) ∧ (1 : Int) + (↑(0 : Nat) : Int) < (↑(List.length a_198) : Int) then
                  if (1 : Nat) < List.length a_198 then
                    if (0 : Int) ≤ (1 : Int) ∧ (1 : Int) + (↑(0 : Nat) : Int) < (↑(List.length a_198) : Int) then
                      if (1 : Nat) < List.length a_198 then
                        (cellarerref06_Split (List.getD a_198 (1 : Nat) []) ((47 : Int))).bind fun a_199 =>
                          Option.bind (α := List UInt8 × Bool) (
                            bif Decidable.decide ((↑(List.length a_199) : Int) - (↑(0 : Nat) : Int) = (2 : Int)) then
                              if (0 : Int) ≤ (1 : Int) ∧ (1 : Int) + (↑(0 : Nat) : Int) < (↑(List.length a_199) : Int) then
                                if (1 : Nat) < List.length a_199 then
                                  bif Decidable.decide (List.getD a_199 (1 : Nat) [] = [(110 : UInt8), (111 : UInt8), (97 : UInt8), (119 : UInt8), (97 : UInt8), (105 : UInt8), (116 : UInt8)]) then
                                    if (0 : Int) ≤ (0 : Int) ∧ (0 : Int) + (↑(0 : Nat) : Int) < (↑(List.length a_199) : Int) then
                                      if (0 : Nat) < List.length a_199 then
                                        some (List.getD a_199 (0 : Nat) [], Bool.true)
                                      else none
                                    else none
                                  else
                                    some (List.getD a_198 (1 : Nat) [], Bool.false)
                                else none
                              else none
                            else
                              some (List.getD a_198 (1 : Nat) [], Bool.false)) (fun t_202 =>
                            if (List.length (Prod.snd s_212) + List.length ((fun (x : List (Ty.T (Ty.prod Ty.str (Ty.prod Ty.str Ty.bool)))) => x) [(List.getD a_198 (0 : Nat) [], Prod.fst t_202, Prod.snd t_202)])) * (40 : Nat) ≤ (17592186044416 : Nat) then
                              some (Sum.inl (IntKind.wrap IntKind.i64 (Prod.fst s_212 + (1 : Int)), Prod.snd s_212 ++ [(List.getD a_198 (0 : Nat) [], Prod.fst t_202, Prod.snd t_202)]))
                            else none)
                      else none
                    else none
                  else none
                else none
              else none
            else none
      else none
    else none
  else
    some (Sum.inr (Sum.inr (Prod.snd s_212)))

noncomputable def cellarerref12_Parse (s_157 : List UInt8) : Option (Bool × List (List UInt8 × List UInt8 × Bool)) :=
  (cellarerref06_Lines (s_157)).bind fun a_182 =>
    (iter (cellarerref12_Parse_b0 (Prod.snd a_182)) ((0 : Int), [])).bind (Sum.elim (fun t_204 =>
      some (Bool.false, [])) (fun t_206 =>
      (cellarerref12_Print (List.drop (0 : Nat) t_206)).bind fun a_207 =>
        bif !Prod.fst a_182 then
          some (Bool.false, [])
        else
          bif !Decidable.decide (Prod.snd a_207 = (0 : Int)) then
            some (Bool.false, [])
          else
            bif !Decidable.decide (Prod.fst a_207 = s_157) then
              some (Bool.false, [])
            else
              some (Bool.true, t_206)))

def cellarerref12_ParseFired_res (r : Bool × List (List UInt8 × List (List UInt8))) : AV := (fun (r_257 : Bool × List (List UInt8 × List (List UInt8))) => AV.tup [AV.view (0 : Nat) (0 : Nat) Option.none, AV.bool (Prod.fst r_257)]) r

def cellarerref12_ParseFired_out (r : Bool × List (List UInt8 × List (List UInt8))) : List AO := (fun (r_257 : Bool × List (List UInt8 × List (List UInt8))) => [AO.row (Ty.prod Ty.str (Ty.list Ty.str)) (Prod.snd r_257)]) r

noncomputable def cellarerref12_ParseFired_b0 (o2_245 : List (List UInt8)) (s_259 : Int × List (List UInt8)) : Option ((Int × List (List UInt8)) ⊕ (List (List UInt8))) :=
  bif Decidable.decide (Prod.fst s_259 < (↑(List.length o2_245) : Int) - (↑(0 : Nat) : Int)) then
    if (0 : Int) ≤ Prod.fst s_259 ∧ Prod.fst s_259 + (↑(0 : Nat) : Int) < (↑(List.length o2_245) : Int) then
      if (0 : Nat) + Int.toNat (Prod.fst s_259) < List.length o2_245 then
        bif !Decidable.decide (List.getD o2_245 ((0 : Nat) + Int.toNat (Prod.fst s_259)) [] = [(45 : UInt8)]) then
          if (0 : Int) ≤ Prod.fst s_259 ∧ Prod.fst s_259 + (↑(0 : Nat) : Int) < (↑(List.length o2_245) : Int) then
            if (0 : Nat) + Int.toNat (Prod.fst s_259) < List.length o2_245 then
              if (List.length (Prod.snd s_259) + List.length ((fun (x : List (Ty.T Ty.str)) => x) [List.getD o2_245 ((0 : Nat) + Int.toNat (Prod.fst s_259)) []])) * (16 : Nat) ≤ (17592186044416 : Nat) then
                some (Sum.inl (IntKind.wrap IntKind.i64 (Prod.fst s_259 + (1 : Int)), Prod.snd s_259 ++ [List.getD o2_245 ((0 : Nat) + Int.toNat (Prod.fst s_259)) []]))
              else none
            else none
          else none
        else
          some (Sum.inl (IntKind.wrap IntKind.i64 (Prod.fst s_259 + (1 : Int)), Prod.snd s_259))
      else none
    else none
  else
    some (Sum.inr (Prod.snd s_259))

noncomputable def cellarerref12_ParseFired_b1 (o1_237 : List (List UInt8)) (s_258 : Int × List (List UInt8 × List (List UInt8))) : Option ((Int × List (List UInt8 × List (List UInt8))) ⊕ (List (List UInt8 × List (List UInt8)))) :=
  bif Decidable.decide (Prod.fst s_258 < (↑(List.length o1_237) : Int) - (↑(0 : Nat) : Int)) then
    if (0 : Int) ≤ Prod.fst s_258 ∧ Prod.fst s_258 + (↑(0 : Nat) : Int) < (↑(List.length o1_237) : Int) then
      if (0 : Nat) + Int.toNat (Prod.fst s_258) < List.length o1_237 then
        (cellarerref06_Split (List.getD o1_237 ((0 : Nat) + Int.toNat (Prod.fst s_258)) []) ((32 : Int))).bind fun a_238 =>
          if (0 : Int) ≤ (0 : Int) ∧ (0 : Int) + (↑(0 : Nat) : Int) < (↑(List.length a_238) : Int) then
            if (0 : Nat) < List.length a_238 then
              (iter (cellarerref12_ParseFired_b0 (a_238)) ((1 : Int), [])).bind (fun t_249 =>
                if (List.length (Prod.snd s_258) + List.length (List.drop (0 : Nat) [(List.getD a_238 (0 : Nat) [], List.drop (0 : Nat) t_249)])) * (40 : Nat) ≤ (17592186044416 : Nat) then
                  some (Sum.inl (IntKind.wrap IntKind.i64 (Prod.fst s_258 + (1 : Int)), Prod.snd s_258 ++ List.drop (0 : Nat) [(List.getD a_238 (0 : Nat) [], List.drop (0 : Nat) t_249)]))
                else none)
            else none
          else none
      else none
    else none
  else
    some (Sum.inr (Prod.snd s_258))

noncomputable def cellarerref12_ParseFired (s_215 : List UInt8) : Option (Bool × List (List UInt8 × List (List UInt8))) :=
  (cellarerref06_Lines (s_215)).bind fun a_216 =>
    (iter (cellarerref12_ParseFired_b1 (Prod.snd a_216)) ((0 : Int), [])).bind (fun t_252 =>
      (cellarerref12_PrintFired (List.drop (0 : Nat) t_252)).bind fun a_253 =>
        bif !Prod.fst a_216 then
          some (Bool.false, [])
        else
          bif !Decidable.decide (Prod.snd a_253 = (0 : Int)) then
            some (Bool.false, [])
          else
            bif !Decidable.decide (Prod.fst a_253 = s_215) then
              some (Bool.false, [])
            else
              some (Bool.true, t_252))

def cellarerlaw12_TrigsParses_res (r : Bool) : AV := (fun (r_282 : Bool) => AV.bool r_282) r

def cellarerlaw12_TrigsParses_out (r : Bool) : List AO := (fun (r_282 : Bool) => []) r

noncomputable def cellarerlaw12_TrigsParses (s_263 : List UInt8) : Option (Bool) :=
  bif Decidable.decide ((3000 : Int) < (↑(List.length s_263) : Int)) then
    (cellarerlaw12_awake ).bind fun a_264 =>
      some (a_264)
  else
    (trigs_Parse (s_263)).bind fun a_265 =>
      (cellarerref12_Parse (s_263)).bind fun a_266 =>
        (trigs_ParseFired (s_263)).bind fun a_267 =>
          (cellarerref12_ParseFired (s_263)).bind fun a_268 =>
            Option.bind (α := Unit ⊕ Unit) (
              bif !Decidable.decide (Prod.fst a_266 = Decidable.decide (Prod.fst a_265 = (0 : Int))) then
                some (Sum.inl ())
              else
                (cellarerref12_Same (List.drop (0 : Nat) (Prod.snd a_265)) (List.drop (0 : Nat) (Prod.snd a_266))).bind fun a_269 =>
                  bif !a_269 then
                    some (Sum.inl ())
                  else
                    bif !Prod.fst a_266 then
                      bif !Decidable.decide (Prod.fst a_265 = (2 : Int)) then
                        some (Sum.inl ())
                      else
                        bif !Decidable.decide (Prod.fst a_268 = Decidable.decide (Prod.fst a_267 = (0 : Int))) then
                          some (Sum.inl ())
                        else
                          (cellarerref12_SameFired (List.drop (0 : Nat) (Prod.snd a_267)) (List.drop (0 : Nat) (Prod.snd a_268))).bind fun a_270 =>
                            bif !a_270 then
                              some (Sum.inl ())
                            else
                              bif !Prod.fst a_268 then
                                bif !Decidable.decide (Prod.fst a_267 = (2 : Int)) then
                                  some (Sum.inl ())
                                else
                                  some (Sum.inr ())
                              else
                                some (Sum.inr ())
                    else
                      bif !Decidable.decide (Prod.fst a_268 = Decidable.decide (Prod.fst a_267 = (0 : Int))) then
                        some (Sum.inl ())
                      else
                        (cellarerref12_SameFired (List.drop (0 : Nat) (Prod.snd a_267)) (List.drop (0 : Nat) (Prod.snd a_268))).bind fun a_271 =>
                          bif !a_271 then
                            some (Sum.inl ())
                          else
                            bif !Prod.fst a_268 then
                              bif !Decidable.decide (Prod.fst a_267 = (2 : Int)) then
                                some (Sum.inl ())
                              else
                                some (Sum.inr ())
                            else
                              some (Sum.inr ())) (Sum.elim (fun t_272 =>
              some (Bool.false)) (fun t_273 =>
              (trigs_Print (List.drop (0 : Nat) (Prod.snd a_265))).bind fun a_274 =>
                (trigs_PrintFired (List.drop (0 : Nat) (Prod.snd a_267))).bind fun a_275 =>
                  bif !Prod.fst a_266 then
                    bif !Prod.fst a_268 then
                      (cellarerlaw12_awake ).bind fun a_276 =>
                        some (a_276)
                    else
                      bif Decidable.decide (Prod.snd a_275 = (0 : Int)) then
                        bif Decidable.decide (Prod.fst a_275 = s_263) then
                          (cellarerlaw12_awake ).bind fun a_277 =>
                            some (a_277)
                        else
                          some (Bool.false)
                      else
                        some (Bool.false)
                  else
                    bif Decidable.decide (Prod.snd a_274 = (0 : Int)) then
                      bif Decidable.decide (Prod.fst a_274 = s_263) then
                        bif !Prod.fst a_268 then
                          (cellarerlaw12_awake ).bind fun a_278 =>
                            some (a_278)
                        else
                          bif Decidable.decide (Prod.snd a_275 = (0 : Int)) then
                            bif Decidable.decide (Prod.fst a_275 = s_263) then
                              (cellarerlaw12_awake ).bind fun a_279 =>
                                some (a_279)
                            else
                              some (Bool.false)
                          else
                            some (Bool.false)
                      else
                        some (Bool.false)
                    else
                      some (Bool.false)))

end Go.Cellar
