/- Regions that draw their order may be taken in the order of the text. No condition. -/
import Derived.Test.YtlhpgbaclbkjiaaDoorAbs19
set_option linter.unusedVariables false
set_option linter.unusedSimpArgs false
namespace Go.Cellar
open Go

/-! ### effects that do not hang on slots or objects -/

def Eff.to (s : St) : Eff → Eff
  | .val v _ => .val v s
  | .need p v _ => .need p v s
  | .ask b v1 v2 _ => .ask b v1 v2 s
  | .enter f a => .enter f a
  | .fail => .fail

def Eff.re (tm : List AV) : Eff → Eff
  | .val v s => .val v ⟨tm, s.hp, s.m⟩
  | .need p v s => .need p v ⟨tm, s.hp, s.m⟩
  | .ask b v1 v2 s => .ask b v1 v2 ⟨tm, s.hp, s.m⟩
  | .enter f a => .enter f a
  | .fail => .fail

def Idle (F : St → Eff) : Prop := ∀ s s', F s = (F s').to s

theorem aBinInt_idle (op : BinOp) (k : IntKind) (a : Int) (k' : IntKind) (b : Int) : Idle (aBinInt op k a k' b) := fun s s' => by
  unfold aBinInt
  cases op <;> dsimp only <;> first | rfl | (split <;> rfl)

theorem aBin_idle (P : Program) (op : BinOp) (t : TypeId) (x y : AV) : Idle (aBin P op t x y) := fun s s' => by
  unfold aBin
  split
  · exact aBinInt_idle _ _ _ _ _ _ _
  · unfold aBinStr; cases op <;> rfl
  · unfold aBinBool; cases op <;> dsimp only <;> first | rfl | (split <;> rfl)
  · unfold aBinAgg; cases op <;> dsimp only <;> first | rfl | (split <;> first | rfl | (split <;> rfl))
  all_goals first | rfl | (unfold aListNil; split <;> rfl) | (unfold aNilEq; split <;> rfl)

theorem aUn_idle (op : UnOp) (x : AV) : Idle (aUn op x) := fun s s' => by
  unfold aUn; split <;> rfl

theorem aPick_idle (c a b : AV) : Idle (aPick c a b) := fun s s' => by
  unfold aPick; split <;> rfl

theorem aBuild_idle (P : Program) (t : TypeId) (parts : List (Nat × AV)) : Idle (aBuild P t parts) := fun s s' => by
  unfold aBuild
  split
  · split
    · split <;> rfl
    · rfl
  · rfl

theorem aNil_idle (x : AV) : Idle (aNil x) := fun s s' => by
  unfold aNil; split <;> rfl

theorem aFieldAddr_idle (P : Program) (t : TypeId) (x : AV) (f : Nat) : Idle (aFieldAddr P t x f) := fun s s' => by
  unfold aFieldAddr
  split
  · rfl
  · split
    · rfl
    · split <;> rfl

theorem aField_idle (P : Program) (t : TypeId) (x : AV) (f : Nat) : Idle (aField P t x f) := fun s s' => by
  unfold aField
  split
  · split <;> rfl
  · rfl

theorem aIndex_idle (P : Program) (t : TypeId) (x i : AV) : Idle (aIndex P t x i) := fun s s' => by
  unfold aIndex; split <;> rfl

theorem aExtract_idle (x : AV) (i : Nat) : Idle (aExtract x i) := fun s s' => by
  unfold aExtract
  split
  · split <;> rfl
  · rfl

theorem aExtern_idle (n o : String) (args : List AV) : Idle (aExtern n o args) := fun s s' => by
  unfold aExtern; split <;> (try split) <;> rfl

theorem aValCall_idle (P : Program) (f : AV) (args : List AV) : Idle (aValCall P f args) := fun s s' => by
  unfold aValCall
  split
  · split
    · split
      · split <;> rfl
      · exact aExtern_idle _ _ _ _ _
    · rfl
  · rfl

theorem aLoad_idle (P : Program) (t : TypeId) (cs : List AV) : Idle (aLoad P t (.iptr cs)) := fun s s' => by
  unfold aLoad
  dsimp only
  split <;> rfl

theorem aConvert_idle (P : Program) (a b : TypeId) (x : AV) (h : ∀ r lo hi, x ≠ .view r lo hi) : Idle (aConvert P a b x) := fun s s' => by
  unfold aConvert
  split
  · rfl
  · rfl
  · rfl
  · exact absurd rfl (h _ _ _)
  · split <;> rfl
  · split <;> rfl
  · rfl

theorem aSlice_idle (P : Program) (t : TypeId) (x : AV) (lo hi mx : Option AV) (h : (∃ b, x = .str b) ∨ (∃ ty l f, x = .list ty l f) ∨ x = .nils) : Idle (aSlice P t x lo hi mx) := fun s s' => by
  unfold aSlice
  cases h1 : optInt lo with
  | none => rfl
  | some lo' =>
    cases h2 : optInt hi with
    | none => rfl
    | some hi' =>
      cases h3 : optInt mx with
      | none => rfl
      | some mx' =>
        cases mx' with
        | none =>
          dsimp only
          cases hu : P.underlying t with
          | none => rcases h with ⟨b, rfl⟩ | ⟨ty, l, f, rfl⟩ | rfl <;> rfl
          | some d =>
            rcases h with ⟨b, rfl⟩ | ⟨ty, l, f, rfl⟩ | rfl <;> cases d <;> first | rfl | (dsimp only; split <;> rfl)
        | some m =>
          cases hi' with
          | none => rfl
          | some h' =>
            dsimp only
            cases hu : P.underlying t with
            | none => rcases h with ⟨b, rfl⟩ | ⟨ty, l, f, rfl⟩ | rfl <;> rfl
            | some d =>
              rcases h with ⟨b, rfl⟩ | ⟨ty, l, f, rfl⟩ | rfl <;> cases d <;> first | rfl | (dsimp only; split <;> rfl)

theorem aIndexAddr_idle (P : Program) (t : TypeId) (ty : Ty) (l : List ty.T) (f : Bool) (i : AV) : Idle (aIndexAddr P t (.list ty l f) i) := fun s s' => by
  unfold aIndexAddr
  cases hu : P.underlying t with
  | none => rfl
  | some d => cases d <;> first | rfl | (cases i <;> first | rfl | (dsimp only; split <;> rfl))

theorem aLen_idle (P : Program) (t : TypeId) (x : AV) (h : ∀ r lo hi, x ≠ .view r lo hi) : Idle (aLen P t x) := fun s s' => by
  unfold aLen
  cases hu : P.underlying t with
  | none => rfl
  | some d => cases d <;> first | rfl | (cases x <;> first | rfl | (exact absurd rfl (h _ _ _)))

end Go.Cellar
