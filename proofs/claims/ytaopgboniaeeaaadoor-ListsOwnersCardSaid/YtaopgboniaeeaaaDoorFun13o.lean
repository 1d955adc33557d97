/- The program's functions, as plain Lean functions: printed by a program out of the translation. No condition. -/
import Derived.Test.YtaopgboniaeeaaaDoorCon13b
import Derived.Test.YtaopgboniaeeaaaDoorAbs31
set_option maxRecDepth 4000
set_option synthInstance.maxHeartbeats 2000000
set_option synthInstance.maxSize 100000
set_option linter.unusedVariables false
namespace Go.Cellar
open Go

def api_List__F_res (r : List (List UInt8 × List (List UInt8))) : AV := (fun (r_9 : List (List UInt8 × List (List UInt8))) => AV.view (0 : Nat) (0 : Nat) Option.none) r

def api_List__F_out (r : List (List UInt8 × List (List UInt8))) : List AO := (fun (r_9 : List (List UInt8 × List (List UInt8))) => [AO.row (Ty.prod Ty.str (Ty.list Ty.str)) r_9]) r

noncomputable def api_List__F (s_7 : List (List UInt8 × List (List UInt8))) : Option (List (List UInt8 × List (List UInt8))) :=
  mayb (List.isEmpty s_7) (
    some ([])) (
    if ((0 : Nat) + List.length s_7) * (40 : Nat) ≤ (17592186044416 : Nat) ∧ ((0 : Nat) < List.length s_7 ∨ (0 : Nat) = (0 : Nat)) then
      some (s_7)
    else none)

def lists_Lose_1_F_res (r : Bool) : AV := (fun (r_24 : Bool) => AV.bool r_24) r

def lists_Lose_1_F_out (r : Bool) : List AO := (fun (r_24 : Bool) => []) r

noncomputable def lists_Lose_1_F (p_20 : List UInt8) (t_21 : List (List UInt8)) : Option (Bool) :=
  (slices_Contains___string_string_ (t_21) (p_20)).bind fun a_22 =>
    some (a_22)

def slices_IndexFunc___string_string__F_res (r : Int) : AV := (fun (r_31 : Int) => AV.int IntKind.i64 r_31) r

def slices_IndexFunc___string_string__F_out (r : Int) : List AO := (fun (r_31 : Int) => []) r

noncomputable def slices_IndexFunc___string_string__F_b0 (s_16 : List (List UInt8)) (f_17 : List (List UInt8)) (t_18 : Int) (s_32 : Int) : Option ((Int) ⊕ (Int ⊕ Unit)) :=
  bif Decidable.decide (s_32 < t_18) then
    if (0 : Int) ≤ s_32 ∧ s_32 < (↑(List.length s_16) : Int) then
      (lists_Lose_1_F (List.getD s_16 (Int.toNat s_32) []) (f_17)).bind fun a_25 =>
        bif a_25 then
          some (Sum.inr (Sum.inl (s_32)))
        else
          some (Sum.inl (IntKind.wrap IntKind.i64 (s_32 + (1 : Int))))
    else none
  else
    some (Sum.inr (Sum.inr ()))

noncomputable def slices_IndexFunc___string_string__F (s_14 : List (List UInt8)) (f_15 : List (List UInt8)) : Option (Int) :=
  (iter (slices_IndexFunc___string_string__F_b0 (s_14) (f_15) ((↑(List.length s_14) : Int))) ((0 : Int))).bind (Sum.elim (fun t_27 =>
    some (t_27)) (fun t_28 =>
    some ((-1 : Int))))

def slices_DeleteFunc___string_string__F_res (r : List (List UInt8)) : AV := (fun (r_45 : List (List UInt8)) => AV.view (0 : Nat) (0 : Nat) Option.none) r

def slices_DeleteFunc___string_string__F_out (r : List (List UInt8)) : List AO := (fun (r_45 : List (List UInt8)) => [AO.row Ty.str r_45]) r

noncomputable def slices_DeleteFunc___string_string__F_b0 (del_35 : List (List UInt8)) (s_46 : Int × Int × List (List UInt8)) : Option ((Int × Int × List (List UInt8)) ⊕ (Int × List (List UInt8))) :=
  bif Decidable.decide (Prod.fst (Prod.snd s_46) < (↑(List.length (Prod.snd (Prod.snd s_46))) : Int) - (↑(0 : Nat) : Int)) then
    if (0 : Int) ≤ Prod.fst (Prod.snd s_46) ∧ Prod.fst (Prod.snd s_46) + (↑(0 : Nat) : Int) < (↑(List.length (Prod.snd (Prod.snd s_46))) : Int) then
      if (0 : Nat) + Int.toNat (Prod.fst (Prod.snd s_46)) < List.length (Prod.snd (Prod.snd s_46)) then
        (lists_Lose_1_F (List.getD (Prod.snd (Prod.snd s_46)) ((0 : Nat) + Int.toNat (Prod.fst (Prod.snd s_46))) []) (del_35)).bind fun a_39 =>
          bif !a_39 then
            if (0 : Int) ≤ Prod.fst s_46 ∧ Prod.fst s_46 + (↑(0 : Nat) : Int) < (↑(List.length (Prod.snd (Prod.snd s_46))) : Int) then
              if (0 : Nat) + Int.toNat (Prod.fst s_46) < List.length (Prod.snd (Prod.snd s_46)) then
                some (Sum.inl (IntKind.wrap IntKind.i64 (Prod.fst s_46 + (1 : Int)), IntKind.wrap IntKind.i64 (Prod.fst (Prod.snd s_46) + (1 : Int)), List.set (Prod.snd (Prod.snd s_46)) ((0 : Nat) + Int.toNat (Prod.fst s_46)) (List.getD (Prod.snd (Prod.snd s_46)) ((0 : Nat) + Int.toNat (Prod.fst (Prod.snd s_46))) [])))
              else none
            else none
          else
            some (Sum.inl (Prod.fst s_46, IntKind.wrap IntKind.i64 (Prod.fst (Prod.snd s_46) + (1 : Int)), Prod.snd (Prod.snd s_46)))
      else none
    else none
  else
    some (Sum.inr (Prod.fst s_46, Prod.snd (Prod.snd s_46)))

noncomputable def slices_DeleteFunc___string_string__F (del_12 : List (List UInt8)) (o0_13 : List (List UInt8)) : Option (List (List UInt8)) :=
  (slices_IndexFunc___string_string__F (List.drop (0 : Nat) o0_13) (del_12)).bind fun a_34 =>
    bif Decidable.decide (a_34 = (-1 : Int)) then
      some (o0_13)
    else
      (iter (slices_DeleteFunc___string_string__F_b0 (del_12)) (a_34, IntKind.wrap IntKind.i64 (a_34 + (1 : Int)), o0_13)).bind (fun t_42 =>
        if (0 : Int) ≤ Prod.fst t_42 ∧ (↑(0 : Nat) : Int) + Prod.fst t_42 ≤ (↑(List.length (Prod.snd t_42)) : Int) then
          if (0 : Int) ≤ (0 : Int) ∧ (0 : Int) ≤ Prod.fst t_42 ∧ (↑(0 : Nat) : Int) + Prod.fst t_42 ≤ (↑(List.length (List.take ((0 : Nat) + Int.toNat (Prod.fst t_42)) (Prod.snd t_42) ++ List.replicate (List.length (Prod.snd t_42) - ((0 : Nat) + Int.toNat (Prod.fst t_42))) [])) : Int) then
            some (List.take ((0 : Nat) + Int.toNat (Prod.fst t_42)) (List.take ((0 : Nat) + Int.toNat (Prod.fst t_42)) (Prod.snd t_42) ++ List.replicate (List.length (Prod.snd t_42) - ((0 : Nat) + Int.toNat (Prod.fst t_42))) []))
          else none
        else none)

def lists_Lose_F_res (r : List (List UInt8 × List (List UInt8))) : AV := (fun (r_50 : List (List UInt8 × List (List UInt8))) => AV.view (0 : Nat) (0 : Nat) Option.none) r

def lists_Lose_F_out (r : List (List UInt8 × List (List UInt8))) : List AO := (fun (r_50 : List (List UInt8 × List (List UInt8))) => [AO.row (Ty.prod Ty.str (Ty.list Ty.str)) r_50]) r

noncomputable def lists_Lose_F (l_3 : List (List UInt8 × List (List UInt8))) (name_4 : List UInt8) (paths_5 : List (List UInt8)) : Option (List (List UInt8 × List (List UInt8))) :=
  (lists_Find (l_3) (name_4)).bind fun a_6 =>
    (api_List__F (l_3)).bind fun a_10 =>
      bif Decidable.decide (a_6 < (0 : Int)) then
        some (a_10)
      else
        if (0 : Int) ≤ a_6 ∧ a_6 < (↑(List.length l_3) : Int) then
          (slices_Clone___string_string_ (Prod.snd (List.getD l_3 (Int.toNat a_6) ([], [])))).bind fun a_11 =>
            (slices_DeleteFunc___string_string__F (paths_5) (a_11)).bind fun a_48 =>
              if (0 : Int) ≤ a_6 ∧ a_6 + (↑(0 : Nat) : Int) < (↑(List.length a_10) : Int) then
                if (0 : Nat) + Int.toNat a_6 < List.length a_10 then
                  some (List.set a_10 ((0 : Nat) + Int.toNat a_6) (Prod.fst (List.getD a_10 ((0 : Nat) + Int.toNat a_6) ([], [])), List.drop (0 : Nat) a_48))
                else none
              else none
        else none

def cellarerlaw13_ListsOwners_F_res (r : Bool) : AV := (fun (r_81 : Bool) => AV.bool r_81) r

def cellarerlaw13_ListsOwners_F_out (r : Bool) : List AO := (fun (r_81 : Bool) => []) r

noncomputable def cellarerlaw13_ListsOwners_F (l_54 : List (List UInt8 × List (List UInt8))) (p_55 : List UInt8) (x_56 : List UInt8) (x_57 : List (List UInt8)) : Option (Bool) :=
  Option.bind (α := Bool ⊕ Unit) (
    (cellarerlaw13_Few (l_54)).bind fun a_58 =>
      bif !a_58 then
        (cellarerlaw13_awake ).bind fun a_59 =>
          some (Sum.inl (a_59))
      else
        (cellarerlaw13_Few ([(x_56, x_57)])).bind fun a_60 =>
          bif !a_60 then
            (cellarerlaw13_awake ).bind fun a_61 =>
              some (Sum.inl (a_61))
          else
            bif Decidable.decide ((300 : Int) < (↑(List.length p_55) : Int)) then
              (cellarerlaw13_awake ).bind fun a_62 =>
                some (Sum.inl (a_62))
            else
              some (Sum.inr ())) (Sum.elim (fun t_64 =>
    some (t_64)) (fun t_65 =>
    (lists_Lose_F (l_54) (x_56) (x_57)).bind fun a_66 =>
      Option.bind (α := Unit ⊕ Unit) (
        (lists_Owners (l_54) (p_55)).bind fun a_67 =>
          (cellarerref13_Owners (l_54) (p_55)).bind fun a_68 =>
            (cellarerref02_Same (List.drop (0 : Nat) a_67) (List.drop (0 : Nat) a_68)).bind fun a_69 =>
              bif !a_69 then
                some (Sum.inl ())
              else
                (cellarerref13_Lose (l_54) (x_56) (x_57)).bind fun a_70 =>
                  (cellarerref13_Same (List.drop (0 : Nat) a_66) (List.drop (0 : Nat) a_70)).bind fun a_71 =>
                    bif !a_71 then
                      some (Sum.inl ())
                    else
                      some (Sum.inr ())) (Sum.elim (fun t_72 =>
        some (Bool.false)) (fun t_73 =>
        (lists_Find (List.drop (0 : Nat) a_66) (x_56)).bind fun a_74 =>
          bif Decidable.decide (a_74 < (0 : Int)) then
            (cellarerlaw13_awake ).bind fun a_75 =>
              some (a_75)
          else
            if (0 : Int) ≤ a_74 ∧ a_74 + (↑(0 : Nat) : Int) < (↑(List.length a_66) : Int) then
              if (0 : Nat) + Int.toNat a_74 < List.length a_66 then
                (cellarerref13_Minus (Prod.snd (List.getD a_66 ((0 : Nat) + Int.toNat a_74) ([], []))) (x_57)).bind fun a_76 =>
                  if (0 : Int) ≤ a_74 ∧ a_74 + (↑(0 : Nat) : Int) < (↑(List.length a_66) : Int) then
                    if (0 : Nat) + Int.toNat a_74 < List.length a_66 then
                      bif Decidable.decide ((↑(List.length a_76) : Int) - (↑(0 : Nat) : Int) = (↑(List.length (Prod.snd (List.getD a_66 ((0 : Nat) + Int.toNat a_74) ([], [])))) : Int)) then
                        (cellarerlaw13_awake ).bind fun a_77 =>
                          some (a_77)
                      else
                        some (Bool.false)
                    else none
                  else none
              else none
            else none))))

end Go.Cellar
