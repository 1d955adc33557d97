/- Regions that draw their order may be taken in the order of the text. No condition. -/
import Derived.Test.YtjdjmbogopadaaaGreatDoorAbs19

set_option linter.unusedVariables false
set_option linter.unusedSimpArgs false
namespace Go.Cellar
open Go

/-! ### effects that do not hang on slots or objects -/

def Eff.to (s : St) : Eff → Eff
  | .val v _ => .val v s
  | .need p v _ => .need p v s
  | .ask b v1 v2 _ => .ask b v1 v2 s
  | .enter f a => .enter f a
  | .fail => .fail

def Eff.re (tm : List AV) : Eff → Eff
  | .val v s => .val v ⟨tm, s.hp, s.m⟩
  | .need p v s => .need p v ⟨tm, s.hp, s.m⟩
  | .ask b v1 v2 s => .ask b v1 v2 ⟨tm, s.hp, s.m⟩
  | .enter f a => .enter f a
  | .fail => .fail

def Idle (F : St → Eff) : Prop := ∀ s s', F s = (F s').to s

theorem aBinInt_idle (op : BinOp) (k : IntKind) (a : Int) (k' : IntKind) (b : Int) : Idle (aBinInt op k a k' b) := fun s s' => by
  unfold aBinInt
  cases op <;> dsimp only <;> first | rfl | (split <;> rfl)

theorem aBin_idle (P : Program) (op : BinOp) (t : TypeId) (x y : AV) : Idle (aBin P op t x y) := fun s s' => by
  unfold aBin
  split
  · exact aBinInt_idle _ _ _ _ _ _ _
  · unfold aBinStr; cases op <;> rfl
  · unfold aBinBool; cases op <;> dsimp only <;> first | rfl | (split <;> rfl)
  · unfold aBinAgg; cases op <;> dsimp only <;> first | rfl | (split <;> first | rfl | (split <;> rfl))
  all_goals first | rfl | (unfold aListNil; split <;> rfl) | (unfold aNilEq; split <;> rfl)

theorem aUn_idle (op : UnOp) (x : AV) : Idle (aUn op x) := fun s s' => by
  unfold aUn; split <;> rfl

theorem aPick_idle (c a b : AV) : Idle (aPick c a b) := fun s s' => by
  unfold aPick; split <;> rfl

theorem aBuild_idle (P : Program) (t : TypeId) (parts : List (Nat × AV)) : Idle (aBuild P t parts) := fun s s' => by
  unfold aBuild
  split
  · split
    · split <;> rfl
    · rfl
  · rfl

theorem aNil_idle (x : AV) : Idle (aNil x) := fun s s' => by
  unfold aNil; split <;> rfl

theorem aFieldAddr_idle (P : Program) (t : TypeId) (x : AV) (f : Nat) : Idle (aFieldAddr P t x f) := fun s s' => by
  unfold aFieldAddr
  split
  · rfl
  · split
    · rfl
    · split <;> rfl

theorem aField_idle (P : Program) (t : TypeId) (x : AV) (f : Nat) : Idle (aField P t x f) := fun s s' => by
  unfold aField
  split
  · split <;> rfl
  · rfl

theorem aIndex_idle (P : Program) (t : TypeId) (x i : AV) : Idle (aIndex P t x i) := fun s s' => by
  unfold aIndex; split <;> (try split) <;> (try split) <;> (try split) <;> rfl

theorem aExtract_idle (x : AV) (i : Nat) : Idle (aExtract x i) := fun s s' => by
  unfold aExtract
  split
  · split <;> rfl
  · rfl

theorem aExtern_idle (n o : String) (args : List AV) : Idle (aExtern n o args) := fun s s' => by
  unfold aExtern; split <;> (try split) <;> rfl

theorem aValCall_idle (P : Program) (f : AV) (args : List AV) : Idle (aValCall P f args) := fun s s' => by
  unfold aValCall
  split
  · split
    · split
      · split <;> rfl
      · exact aExtern_idle _ _ _ _ _
    · rfl
  · rfl

theorem aLoad_idle (P : Program) (t : TypeId) (cs : List AV) : Idle (aLoad P t (.iptr cs)) := fun s s' => by
  unfold aLoad
  dsimp only
  split <;> rfl

theorem aConvert_idle (P : Program) (a b : TypeId) (x : AV) (h : ∀ r lo hi, x ≠ .view r lo hi) : Idle (aConvert P a b x) := fun s s' => by
  unfold aConvert
  split
  · rfl
  · rfl
  · rfl
  · exact absurd rfl (h _ _ _)
  · split <;> rfl
  · split <;> rfl
  · rfl

theorem aSlice_idle (P : Program) (t : TypeId) (x : AV) (lo hi mx : Option AV) (h : (∃ b, x = .str b) ∨ (∃ ty l f, x = .list ty l f) ∨ x = .nils) : Idle (aSlice P t x lo hi mx) := fun s s' => by
  unfold aSlice
  cases h1 : optInt lo with
  | none => rfl
  | some lo' =>
    cases h2 : optInt hi with
    | none => rfl
    | some hi' =>
      cases h3 : optInt mx with
      | none => rfl
      | some mx' =>
        cases mx' with
        | none =>
          dsimp only
          cases hu : P.underlying t with
          | none => rcases h with ⟨b, rfl⟩ | ⟨ty, l, f, rfl⟩ | rfl <;> rfl
          | some d =>
            rcases h with ⟨b, rfl⟩ | ⟨ty, l, f, rfl⟩ | rfl <;> cases d <;> first | rfl | (dsimp only; split <;> rfl)
        | some m =>
          cases hi' with
          | none => rfl
          | some h' =>
            dsimp only
            cases hu : P.underlying t with
            | none => rcases h with ⟨b, rfl⟩ | ⟨ty, l, f, rfl⟩ | rfl <;> rfl
            | some d =>
              rcases h with ⟨b, rfl⟩ | ⟨ty, l, f, rfl⟩ | rfl <;> cases d <;> first | rfl | (dsimp only; split <;> rfl)

theorem aIndexAddr_idle (P : Program) (t : TypeId) (ty : Ty) (l : List ty.T) (f : Bool) (i : AV) : Idle (aIndexAddr P t (.list ty l f) i) := fun s s' => by
  unfold aIndexAddr
  cases hu : P.underlying t with
  | none => rfl
  | some d => cases d <;> first | rfl | (cases i <;> first | rfl | (dsimp only; split <;> rfl))

theorem aLen_idle (P : Program) (t : TypeId) (x : AV) (h : ∀ r lo hi, x ≠ .view r lo hi) : Idle (aLen P t x) := fun s s' => by
  unfold aLen
  cases hu : P.underlying t with
  | none => rfl
  | some d => cases d <;> first | rfl | (cases x <;> first | rfl | (exact absurd rfl (h _ _ _)))

end Go.Cellar

/- Operations of a class do the same on the same operands. No condition. -/
set_option linter.unusedVariables false
set_option linter.unusedSimpArgs false
namespace Go.Cellar
open Go

theorem Eff.to_to (e : Eff) (s s' : St) : (e.to s).to s' = e.to s' := by cases e <;> rfl

theorem Idle.self {F : St → Eff} (h : Idle F) (s : St) : F s = (F s).to s := h s s

/-! ### readers -/

/-- The same objects, other slots. -/
def Looks (F : St → Eff) : Prop := ∀ tm tm' hp m, F ⟨tm, hp, m⟩ = (F ⟨tm', hp, m⟩).to ⟨tm, hp, m⟩

theorem aLoad_looks (P : Program) (t : TypeId) (a : AV) : Looks (aLoad P t a) := fun tm tm' hp m => by
  unfold aLoad
  cases a <;> dsimp only <;> first | rfl | (split <;> first | rfl | (split <;> rfl))

theorem viewList_looks (P : Program) (a b : TypeId) (x : AV) : Looks (aConvert P a b x) := fun tm tm' hp m => by
  unfold aConvert
  cases h1 : P.underlying a with
  | none => rfl
  | some d1 =>
    cases h2 : P.underlying b with
    | none => cases d1 <;> rfl
    | some d2 =>
      split
      · rfl
      · rfl
      · rfl
      · dsimp only
        split <;> rfl
      · split <;> rfl
      · split <;> rfl
      · rfl

theorem aLen_looks (P : Program) (t : TypeId) (x : AV) : Looks (aLen P t x) := fun tm tm' hp m => by
  unfold aLen
  cases hu : P.underlying t with
  | none => rfl
  | some d => cases d <;> first | rfl | (cases x <;> first | rfl | (dsimp only; split <;> rfl))

theorem aIndexAddr_looks (P : Program) (t : TypeId) (x i : AV) : Looks (aIndexAddr P t x i) := fun tm tm' hp m => by
  unfold aIndexAddr
  dsimp only
  repeat' (first | rfl | split)

theorem aSlice_looks (P : Program) (t : TypeId) (x : AV) (lo hi mx : Option AV) : Looks (aSlice P t x lo hi mx) := fun tm tm' hp m => by
  unfold aSlice
  dsimp only
  repeat' (first | rfl | split)

/-- It looks at some objects alone. -/
def Local (rs : List Nat) (F : St → Eff) : Prop := ∀ s S : St, (∀ r ∈ rs, S.hp[r]? = s.hp[r]?) → F S = (F s).to S

theorem aLoad_local (P : Program) (t : TypeId) (a : AV) : Local a.refs (aLoad P t a) := fun s S h => by
  unfold aLoad
  cases a <;> dsimp only <;> first
    | rfl
    | (rename_i r off; rw [h r (by simp [AV.refs])]; generalize s.hp[r]? = q; cases q with
        | none => rfl
        | some o => cases o <;> dsimp only <;> first | rfl | (split <;> rfl))
    | (rename_i r i off; rw [h r (by simp [AV.refs])]; generalize s.hp[r]? = q; cases q with
        | none => rfl
        | some o => cases o <;> dsimp only <;> first | rfl | (split <;> rfl))
    | (split <;> rfl)

theorem viewList_same {hp hp' : List AO} {r lo : Nat} {hi : Option Nat} (h : hp'[r]? = hp[r]?) : viewList hp' r lo hi = viewList hp r lo hi := by
  unfold viewList; rw [h]

theorem aConvert_local (P : Program) (a b : TypeId) (x : AV) : Local x.refs (aConvert P a b x) := fun s S h => by
  unfold aConvert
  split
  · rfl
  · rfl
  · rfl
  · rename_i e r lo hi _ _
    try dsimp only
    rw [viewList_same (h r (by simp [AV.refs]))]
    split <;> rfl
  · (try dsimp only); split <;> rfl
  · (try dsimp only); split <;> rfl
  · rfl

theorem aLen_local (P : Program) (t : TypeId) (x : AV) : Local x.refs (aLen P t x) := fun s S h => by
  unfold aLen
  split
  · rfl
  · rfl
  · rfl
  · rfl
  · rename_i e r lo hi _
    try dsimp only
    rw [h r (by simp [AV.refs])]
    generalize s.hp[r]? = q
    cases q with
    | none => rfl
    | some o => cases o <;> rfl
  · rfl

theorem aIndexAddr_local (P : Program) (t : TypeId) (x i : AV) : Local x.refs (aIndexAddr P t x i) := fun s S h => by
  unfold aIndexAddr
  split
  · (try dsimp only); split <;> rfl
  · rename_i e r lo hi k i _
    try dsimp only
    rw [h r (by simp [AV.refs])]
    generalize s.hp[r]? = q
    cases q with
    | none => rfl
    | some o => cases o <;> dsimp only <;> first | rfl | (split <;> first | rfl | (cases hi <;> rfl))
  · rename_i n e r off k i _
    try dsimp only
    rw [h r (by simp [AV.refs])]
    generalize s.hp[r]? = q
    cases q with
    | none => rfl
    | some o => cases o <;> dsimp only <;> first | rfl | (split <;> rfl)
  · rfl

theorem aSlice_local (P : Program) (t : TypeId) (x : AV) (lo hi mx : Option AV) : Local x.refs (aSlice P t x lo hi mx) := fun s S h => by
  unfold aSlice
  split
  · try dsimp only
    split
    · rfl
    · (try dsimp only); split <;> rfl
    · (try dsimp only); split <;> rfl
    · rename_i r lo0 hi0 _
      try dsimp only
      rw [h r (by simp [AV.refs])]
      generalize s.hp[r]? = q
      cases q with
      | none => rfl
      | some o => cases o <;> dsimp only <;> first | rfl | (split <;> first | rfl | (split <;> rfl))
    · rename_i r _
      try dsimp only
      rw [h r (by simp [AV.refs])]
      generalize s.hp[r]? = q
      cases q with
      | none => rfl
      | some o => cases o <;> dsimp only <;> first | rfl | (split <;> rfl)
    · rfl
  · try dsimp only
    split
    · (try dsimp only); split <;> rfl
    · (try dsimp only); split <;> rfl
    · rfl
  · rfl

theorem Local.mono {rs rs' : List Nat} {F : St → Eff} (h : Local rs F) (hs : ∀ r ∈ rs, r ∈ rs') : Local rs' F := fun s S hq => h s S fun r hr => hq r (hs r hr)

theorem refs_mem {xs : List AV} {x : AV} (h : x ∈ xs) : ∀ r ∈ x.refs, r ∈ AV.refsL xs := by
  induction xs with
  | nil => cases h
  | cons y xs ih =>
    intro r hr
    simp only [AV.refsL, List.mem_append]
    rcases List.mem_cons.mp h with rfl | h
    · exact .inl hr
    · exact .inr (ih h r hr)

theorem Eff.to_re (e : Eff) (s : St) (tm : List AV) : (e.to s).re tm = e.to ⟨tm, s.hp, s.m⟩ := by cases e <;> rfl

/-! ### writers -/

def Writes (F : St → Eff) : Prop := ∀ tm tm' hp m, F ⟨tm, hp, m⟩ = (F ⟨tm', hp, m⟩).re tm

theorem aAlloc_writes (P : Program) (t : TypeId) : Writes (aAlloc P t) := fun tm tm' hp m => by
  unfold aAlloc
  split
  · split
    · split <;> rfl
    · rfl
  · split
    · rfl
    · split <;> rfl
  · split <;> rfl

theorem aBox_writes (v : AV) : Writes (aBox v) := fun tm tm' hp m => by
  unfold aBox; split <;> rfl

theorem aMakeSlice_writes (P : Program) (t : TypeId) (l c : AV) : Writes (aMakeSlice P t l c) := fun tm tm' hp m => by
  unfold aMakeSlice
  split
  · split
    · split <;> rfl
    · rfl
  · rfl

theorem aStore_writes (P : Program) (t : TypeId) (r off : Nat) (v : AV) : Writes (aStore P t (.ptr r off) v) := fun tm tm' hp m => by
  unfold aStore
  dsimp only
  split
  · split <;> rfl
  · rfl

/-! ### one operation -/

theorem mem_ops_list {xs : Array Operand} {x : Operand} (h : x ∈ xs.toList) : x ∈ xs := by simpa using h

theorem evs_same {s1 s2 : St} {xs : Array Operand} (h : ∀ x ∈ xs, s2.ev x = s1.ev x) : xs.toList.map s2.ev = xs.toList.map s1.ev :=
  List.map_congr_left fun x hx => h x (by simpa using hx)

theorem pairs_same {s1 s2 : St} {ps : Array (Nat × Operand)} (h : ∀ x ∈ ps.map (·.2), s2.ev x = s1.ev x) : (ps.toList.map fun p => (p.1, s2.ev p.2)) = ps.toList.map fun p => (p.1, s1.ev p.2) :=
  List.map_congr_left fun p hp => by rw [h p.2 (Array.mem_map.mpr ⟨p, by simpa using hp, rfl⟩)]

theorem opt_same {s1 s2 : St} {x : Option Operand} (h : ∀ y, x = some y → s2.ev y = s1.ev y) : x.map s2.ev = x.map s1.ev := by
  cases x with
  | none => rfl
  | some y => simp [h y rfl]

/-- The operands' values, and the state, as two things. -/
def aOpAt (P : Program) (o : Oper) (v s : St) : Eff :=
  match o.op with
  | .move x | .assign x => .val (v.ev x) s
  | .pick c a b => aPick (v.ev c) (v.ev a) (v.ev b) s
  | .alloc t => aAlloc P t s
  | .box _ x => aBox (v.ev x) s
  | .build t parts => aBuild P t (parts.toList.map fun p => (p.1, v.ev p.2)) s
  | .buildSlice t len parts => aBuildSlice P t len (parts.toList.map fun p => (p.1, v.ev p.2)) s
  | .load t a => aLoad P t (v.ev a) s
  | .store t a x => aStore P t (v.ev a) (v.ev x) s
  | .nilCheck x => aNil (v.ev x) s
  | .binOp op t x y _ => aBin P op t (v.ev x) (v.ev y) s
  | .unOp op _ x => aUn op (v.ev x) s
  | .convert a b x => aConvert P a b (v.ev x) s
  | .makeFunc fn first caps => .val (.func fn (first.toList.map v.ev) (caps.toList.map v.ev)) s
  | .makeSlice t l c => aMakeSlice P t (v.ev l) (v.ev c) s
  | .slice t x lo hi mx => aSlice P t (v.ev x) (lo.map v.ev) (hi.map v.ev) (mx.map v.ev) s
  | .fieldAddr t x f => aFieldAddr P t (v.ev x) f s
  | .field t x f => aField P t (v.ev x) f s
  | .indexAddr t x i => aIndexAddr P t (v.ev x) (v.ev i) s
  | .index t x i => aIndex P t (v.ev x) (v.ev i) s
  | .extract x i => aExtract (v.ev x) i s
  | .call c => match c.callee with
    | .builtin b => aBuiltin P b c.argTypes.toList (c.args.toList.map v.ev) s
    | .invoke _ _ => .fail
    | .value f => aValCall P (v.ev f) (c.args.toList.map v.ev) s
  | _ => .fail

theorem aOp_at (P : Program) (o : Oper) (s : St) : aOp P o s = aOpAt P o s s := by
  unfold aOp aOpAt
  cases o.op <;> rfl

theorem aOpAt_same (P : Program) (o : Oper) {s1 s2 : St} (s : St) (h : ∀ x ∈ o.op.operands, s2.ev x = s1.ev x) : aOpAt P o s2 s = aOpAt P o s1 s := by
  unfold aOpAt
  obtain ⟨dst, op, type, pos, after, guard⟩ := o
  cases op <;> simp only [Op.operands] at h <;> dsimp only
  case build t ps => rw [pairs_same fun x hx => h x (by simpa using hx)]
  case buildSlice t n ps => rw [pairs_same fun x hx => h x (by simpa using hx)]
  case makeFunc fn first captured => rw [evs_same (xs := first) fun x hx => h x (by simp [hx]), evs_same (xs := captured) fun x hx => h x (by simp [hx])]
  case call c =>
    have ha : c.args.toList.map s2.ev = c.args.toList.map s1.ev := evs_same fun x hx => h x (by simp [Call.operands, hx])
    cases hc : c.callee with
    | value f => have hf : s2.ev f = s1.ev f := h f (by simp [Call.operands, hc]); simp only [hf, ha]
    | invoke r m => rfl
    | builtin b => simp only [ha]
  case slice t x lo hi mx =>
    have h0 : s2.ev x = s1.ev x := h x (by simp)
    rw [h0, opt_same (x := lo) fun y hy => h y (by simp [hy]), opt_same (x := hi) fun y hy => h y (by simp [hy]), opt_same (x := mx) fun y hy => h y (by simp [hy])]
  all_goals (first | rfl | (simp_all; done))

theorem killObjs_nil : ∀ (i : Nat) (hp : List AO), killObjs [] i hp = hp
  | _, [] => rfl
  | i, .row t l :: os => by rw [killObjs, killObjs_nil (i + 1) os]; rfl
  | i, .dead :: os => by rw [killObjs, killObjs_nil (i + 1) os]; simp
  | i, .box _ :: os => by rw [killObjs, killObjs_nil (i + 1) os]; simp
  | i, .arr _ _ :: os => by rw [killObjs, killObjs_nil (i + 1) os]; simp
  | i, .bld _ _ :: os => by rw [killObjs, killObjs_nil (i + 1) os]; simp
  | i, .buf _ _ :: os => by rw [killObjs, killObjs_nil (i + 1) os]; simp

theorem gFreeze_nil (hp : List AO) : gFreeze hp [] = fun v => v := by
  funext v
  cases v <;> simp [gFreeze]

theorem AO.sub_id' (o : AO) : AO.sub (fun v => v) o = o := by
  cases o <;> simp [AO.sub, AV.subL_id, AV.sub_id]

theorem St.freeze_nil (s : St) : s.freeze [] = s := by
  obtain ⟨tm, hp, m⟩ := s
  simp only [St.freeze, St.mapv, gFreeze_nil, AV.subL_id, killObjs_nil]
  congr 1
  exact (List.map_congr_left fun o _ => AO.sub_id' o).trans (List.map_id _)

theorem partsInOrder_eq : ∀ (n : Nat) (ps : List (Nat × AV)) (vs : List AV), partsInOrder n ps = some vs → vs = ps.map (·.2)
  | _, [], vs, h => by simp only [partsInOrder, Option.some.injEq] at h; exact h.symm
  | n, (i, v) :: r, vs, h => by
    unfold partsInOrder at h
    split at h
    · cases hq : partsInOrder (n + 1) r with
      | none => rw [hq] at h; cases h
      | some q =>
        rw [hq] at h
        simp only [Option.map_some, Option.some.injEq] at h
        rw [← h, partsInOrder_eq (n + 1) r q hq]
        rfl
    · cases h

/-- A slice literal without references, as what makes an object. -/
theorem aBuildSlice_plain (P : Program) (t : TypeId) (len : Nat) (parts : List (Nat × AV)) (hr : AV.refsL (parts.map (·.2)) = []) (s : St) :
    aBuildSlice P t len parts s = match P.underlying t with
      | some (.slice e) => match tyOf P 60 e, partsInOrder 0 parts with
        | some ty, some vs => match decide (vs.length = len ∧ ty.size = sizeT P e ∧ (zeroCells1 P e).isSome = true ∧ len * ty.size ≤ 4096) with
          | true => match elemsOf ty vs with
            | some xs => .val (.list ty xs true) s
            | none => .fail
          | false => .fail
        | _, _ => .fail
      | _ => .fail := by
  unfold aBuildSlice
  cases hu : P.underlying t with
  | none => rfl
  | some d =>
    cases d <;> (try rfl)
    rename_i e
    dsimp only
    cases h1 : tyOf P 60 e with
    | none => rfl
    | some ty =>
      cases h2 : partsInOrder 0 parts with
      | none => rfl
      | some vs =>
        have hv := partsInOrder_eq 0 parts vs h2
        have hr' : AV.refsL vs = [] := by rw [hv]; exact hr
        dsimp only
        rw [hr', St.freeze_nil, gFreeze_nil, AV.subL_id]
        by_cases hc : vs.length = len ∧ ty.size = sizeT P e ∧ (zeroCells1 P e).isSome = true ∧ len * ty.size ≤ 4096
        · rw [if_pos hc, decide_eq_true hc]; dsimp only; cases elemsOf ty vs <;> rfl
        · rw [if_neg hc, decide_eq_false hc]; first | done | rfl

theorem pairs_refs {v : St} {parts : Array (Nat × Operand)} (h : (AV.refsL (parts.toList.map fun p => v.ev p.2)).isEmpty = true) : AV.refsL ((parts.toList.map fun p => (p.1, v.ev p.2)).map (·.2)) = [] := by
  rw [List.map_map]
  exact List.isEmpty_iff.mp h

theorem aOpAt_idle (P : Program) (o : Oper) {v : St} (h : pureAt v o.op = true) : Idle (aOpAt P o v) := by
  intro s s'
  unfold aOpAt
  obtain ⟨dst, op, type, pos, after, guard⟩ := o
  cases op <;> simp only [pureAt, Bool.false_eq_true] at h <;> dsimp only
  case move => rfl
  case assign => rfl
  case pick => exact aPick_idle _ _ _ _ _
  case build => exact aBuild_idle _ _ _ _ _
  case load t a =>
    split at h
    · rename_i hv; rw [hv]; exact aLoad_idle _ _ _ _ _
    · cases h
  case buildSlice t len parts =>
    rw [aBuildSlice_plain P t len _ (pairs_refs h), aBuildSlice_plain P t len _ (pairs_refs h)]
    split
    · split
      · split
        · split <;> rfl
        · rfl
      · rfl
    · rfl
  case nilCheck => exact aNil_idle _ _ _
  case binOp => exact aBin_idle _ _ _ _ _ _ _
  case unOp => exact aUn_idle _ _ _ _
  case convert a b x => exact aConvert_idle _ _ _ _ (fun r lo hi hv => by rw [hv] at h; cases h) _ _
  case makeFunc => rfl
  case slice t x lo hi mx =>
    refine aSlice_idle _ _ _ _ _ _ ?_ _ _
    split at h
    · rename_i b hv; exact .inl ⟨b, hv⟩
    · rename_i ty l f hv; exact .inr (.inl ⟨ty, l, f, hv⟩)
    · rename_i hv; exact .inr (.inr hv)
    · cases h
  case fieldAddr => exact aFieldAddr_idle _ _ _ _ _ _
  case field => exact aField_idle _ _ _ _ _ _
  case indexAddr t x i =>
    split at h
    · rename_i hv; rw [hv]; exact aIndexAddr_idle _ _ _ _ _ _ _ _
    · cases h
  case index => exact aIndex_idle _ _ _ _ _ _
  case extract => exact aExtract_idle _ _ _ _
  case call c =>
    cases hc : c.callee with
    | value f => exact aValCall_idle _ _ _ _ _
    | invoke r m => rfl
    | builtin b =>
      rw [hc] at h
      cases b <;> simp only [Bool.false_eq_true] at h <;> dsimp only
      case len =>
        unfold aBuiltin
        cases hargs : c.args.toList.map v.ev with
        | nil => cases c.argTypes.toList <;> rfl
        | cons a as =>
          cases ht : c.argTypes.toList with
          | nil => rfl
          | cons t ts => exact aLen_idle _ _ _ (fun r lo hi hv => by rw [hargs, hv] at h; cases h) _ _
      case max => unfold aBuiltin; split <;> first | rfl | contradiction
      case min => unfold aBuiltin; split <;> first | rfl | contradiction


theorem aOpAt_looks (P : Program) (o : Oper) (v : St) (h : readOp o.op = true) : Looks (aOpAt P o v) := by
  intro tm tm' hp m
  unfold aOpAt
  obtain ⟨dst, op, type, pos, after, guard⟩ := o
  cases op <;> simp only [readOp, Bool.false_eq_true] at h <;> dsimp only
  case load => exact aLoad_looks _ _ _ _ _ _ _
  case convert => exact viewList_looks _ _ _ _ _ _ _ _
  case slice => exact aSlice_looks _ _ _ _ _ _ _ _ _ _
  case indexAddr => exact aIndexAddr_looks _ _ _ _ _ _ _ _
  case call c =>
    cases hc : c.callee with
    | value f => rw [hc] at h; cases h
    | invoke r m => rw [hc] at h; cases h
    | builtin b =>
      rw [hc] at h
      cases b <;> simp only [Bool.false_eq_true] at h <;> dsimp only
      unfold aBuiltin
      cases hargs : c.args.toList.map v.ev with
      | nil => cases c.argTypes.toList <;> rfl
      | cons a as =>
        cases ht : c.argTypes.toList with
        | nil => rfl
        | cons t ts => exact aLen_looks _ _ _ _ _ _ _

theorem aOpAt_local (P : Program) (o : Oper) (v : St) (h : readOp o.op = true) : Local (fpOf v o.op 1) (aOpAt P o v) := by
  have key : ∀ x ∈ o.op.operands, ∀ r ∈ (v.ev x).refs, r ∈ fpOf v o.op 1 := fun x hx r hr => refs_mem (List.mem_map.mpr ⟨x, by simpa using hx, rfl⟩) r hr
  unfold aOpAt
  obtain ⟨dst, op, type, pos, after, guard⟩ := o
  cases op <;> simp only [readOp, Bool.false_eq_true] at h <;> dsimp only at key ⊢
  case load t a => exact (aLoad_local _ _ _).mono (key a (by simp [Op.operands]))
  case convert a b x => exact (aConvert_local _ _ _ _).mono (key x (by simp [Op.operands]))
  case slice t x lo hi mx => exact (aSlice_local _ _ _ _ _ _).mono (key x (by simp [Op.operands]))
  case indexAddr t x i => exact (aIndexAddr_local _ _ _ _).mono (key x (by simp [Op.operands]))
  case call c =>
    cases hc : c.callee with
    | value f => rw [hc] at h; cases h
    | invoke r m => rw [hc] at h; cases h
    | builtin b =>
      rw [hc] at h
      cases b <;> simp only [Bool.false_eq_true] at h <;> dsimp only
      intro s S hq
      unfold aBuiltin
      cases hargs : c.args.toList.map v.ev with
      | nil => cases c.argTypes.toList <;> rfl
      | cons a as =>
        cases ht : c.argTypes.toList with
        | nil => rfl
        | cons t ts =>
          have hm : a ∈ c.args.toList.map v.ev := by rw [hargs]; simp
          obtain ⟨x, hx, rfl⟩ := List.mem_map.mp hm
          exact aLen_local _ _ _ s S fun r hr => hq r (key x (by simp [Op.operands, Call.operands]; exact .inr (by simpa using hx)) r hr)

theorem appended_same (tm tm' : List AV) (hp : List AO) (m : Nat) (ty : Ty) (y : AV) : appended ⟨tm, hp, m⟩ ty y = appended ⟨tm', hp, m⟩ ty y := rfl

theorem aAppend_writes (P : Program) (t : TypeId) (x y : AV) (h : x = .nils ∨ ∃ ty l f, x = .list ty l f) : Writes (aAppend P t x y) := fun tm tm' hp m => by
  unfold aAppend
  split
  · split
    · rfl
    · rw [appended_same tm tm' hp m]
      split
      · split
        · rfl
        · rcases h with rfl | ⟨ty', l, f, rfl⟩
          · rfl
          · cases f
            · rfl
            · dsimp only
              split <;> rfl
      · rfl
  · rfl

theorem aAppend_ext (P : Program) (t : TypeId) (x y : AV) (h : x = .nils ∨ ∃ ty l f, x = .list ty l f) {s s1 : St} {w : AV} (hg : (aAppend P t x y s).gives w s1) : (∃ ext, s1.hp = s.hp ++ ext) ∧ s1.m = s.m := by
  unfold aAppend at hg
  split at hg
  · split at hg
    · exact hg.elim
    · split at hg
      · split at hg
        · exact hg.elim
        · rcases h with rfl | ⟨ty', l, f, rfl⟩
          · obtain ⟨_, _, rfl⟩ := hg; exact ⟨⟨_, rfl⟩, rfl⟩
          · cases f
            · exact hg.elim
            · dsimp only at hg
              split at hg
              · obtain ⟨_, _, rfl⟩ := hg; exact ⟨⟨_, rfl⟩, rfl⟩
              · exact hg.elim
      · exact hg.elim
  · exact hg.elim

/-- A call that 'allocAt' knows. -/
theorem append_at {P : Program} {v : St} {c : Call} (h : allocAt v (.call c) = true) : (∃ f, c.callee = .value f) ∨ ∃ b, c.callee = .builtin b ∧ ((∃ t x y, (x = .nils ∨ ∃ ty l f, x = .list ty l f) ∧ ∀ s, aBuiltin P b c.argTypes.toList (c.args.toList.map v.ev) s = aAppend P t x y s) ∨ (∀ s, aBuiltin P b c.argTypes.toList (c.args.toList.map v.ev) s = .fail)) := by
  unfold allocAt at h
  dsimp only at h
  split at h
  · rename_i hb
    refine .inr ⟨.append, hb, ?_⟩
    have hx : ∃ x y, c.args.toList.map v.ev = [x, y] ∧ (x = .nils ∨ ∃ ty l f, x = .list ty l f) := by
      split at h
      · rename_i y he; exact ⟨_, y, he, .inl rfl⟩
      · rename_i ty l f y he; exact ⟨_, y, he, .inr ⟨ty, l, f, rfl⟩⟩
      · cases h
    obtain ⟨x, y, he, hx⟩ := hx
    rw [he]
    unfold aBuiltin
    cases c.argTypes.toList with
    | nil => exact .inr fun _ => rfl
    | cons t ts =>
      cases ts with
      | nil => exact .inr fun _ => rfl
      | cons t2 ts =>
        dsimp only
        cases hu : P.underlying t2 with
        | none => exact .inr fun _ => rfl
        | some u =>
          cases u <;> first | exact .inl ⟨t, x, y, hx, fun _ => rfl⟩ | exact .inr fun _ => rfl
  · rename_i f hf; exact .inl ⟨f, hf⟩
  · cases h

theorem aOpAt_allocs (P : Program) (o : Oper) (v : St) (h : allocAt v o.op = true) : Writes (aOpAt P o v) := by
  intro tm tm' hp m
  unfold aOpAt
  obtain ⟨dst, op, type, pos, after, guard⟩ := o
  cases op <;> first | (simp only [allocAt, Bool.false_eq_true] at h; done) | skip
  all_goals dsimp only
  case alloc => exact aAlloc_writes _ _ _ _ _ _
  case box => exact aBox_writes _ _ _ _ _
  case makeSlice => exact aMakeSlice_writes _ _ _ _ _ _ _ _
  case call c =>
    obtain ⟨f, hf⟩ | ⟨b, hb, ⟨t, x, y, hx, he⟩ | he⟩ := append_at (P := P) h
    · rw [hf]
      dsimp only
      rw [aValCall_idle P (v.ev f) _ ⟨tm, hp, m⟩ ⟨tm', hp, m⟩]
      have h2 := aValCall_idle P (v.ev f) (c.args.toList.map v.ev) ⟨tm', hp, m⟩ ⟨tm', hp, m⟩
      conv => rhs; rw [h2]
      rw [Eff.to_re]
    · rw [hb]; dsimp only; rw [he, he]; exact aAppend_writes P t x y hx _ _ _ _
    · rw [hb]; dsimp only; rw [he, he]; rfl

/-- What makes an object leaves the others. -/
theorem aOpAt_ext (P : Program) (o : Oper) (v : St) (h : allocAt v o.op = true) {s s1 : St} {w : AV} (hg : (aOpAt P o v s).gives w s1) : (∃ ext, s1.hp = s.hp ++ ext) ∧ s1.m = s.m := by
  unfold aOpAt at hg
  obtain ⟨dst, op, type, pos, after, guard⟩ := o
  cases op <;> first | (simp only [allocAt, Bool.false_eq_true] at h; done) | skip
  all_goals dsimp only at hg
  case alloc =>
    unfold aAlloc at hg
    split at hg
    · split at hg
      · split at hg
        · obtain ⟨_, rfl⟩ := hg; exact ⟨⟨_, rfl⟩, rfl⟩
        · exact hg.elim
      · exact hg.elim
    · split at hg
      · obtain ⟨_, rfl⟩ := hg; exact ⟨⟨_, rfl⟩, rfl⟩
      · split at hg
        · obtain ⟨_, rfl⟩ := hg; exact ⟨⟨_, rfl⟩, rfl⟩
        · exact hg.elim
    · split at hg
      · obtain ⟨_, rfl⟩ := hg; exact ⟨⟨_, rfl⟩, rfl⟩
      · exact hg.elim
  case box =>
    unfold aBox at hg
    split at hg
    · exact hg.elim
    · obtain ⟨_, rfl⟩ := hg; exact ⟨⟨_, rfl⟩, rfl⟩
  case makeSlice =>
    unfold aMakeSlice at hg
    split at hg
    · split at hg
      · split at hg
        · obtain ⟨_, _, rfl⟩ := hg; exact ⟨⟨_, rfl⟩, rfl⟩
        · exact hg.elim
      · exact hg.elim
    · exact hg.elim
  case call c =>
    obtain ⟨f, hf⟩ | ⟨b, hb, ⟨t, x, y, hx, he⟩ | he⟩ := append_at (P := P) h
    · rw [hf] at hg
      dsimp only at hg
      have h2 := aValCall_idle P (v.ev f) (c.args.toList.map v.ev) s s
      rw [h2] at hg
      have hst : s1 = s := by
        revert hg
        generalize aValCall P (v.ev f) (c.args.toList.map v.ev) s = e
        intro hg
        cases e <;> simp only [Eff.gives, Eff.to] at hg
        · exact hg.2.symm
        · exact hg.2.2.symm
        · exact hg.2.symm
      subst hst
      exact ⟨⟨[], by simp⟩, rfl⟩
    · rw [hb] at hg; dsimp only at hg; rw [he] at hg; exact aAppend_ext P t x y hx hg
    · rw [hb] at hg; dsimp only at hg; rw [he] at hg; exact hg.elim

theorem aOpAt_writes (P : Program) (o : Oper) (v : St) (h : writeAt v o.op = true) : Writes (aOpAt P o v) := by
  intro tm tm' hp m
  unfold aOpAt
  obtain ⟨dst, op, type, pos, after, guard⟩ := o
  cases op <;> simp only [writeAt, Bool.false_eq_true] at h <;> dsimp only
  case store t a x =>
    split at h
    · rename_i hv; rw [hv]; exact aStore_writes _ _ _ _ _ _ _ _ _
    · cases h
  case call c =>
    cases hc : c.callee with
    | value f =>
      dsimp only
      rw [aValCall_idle P (v.ev f) _ ⟨tm, hp, m⟩ ⟨tm', hp, m⟩]
      have h2 := aValCall_idle P (v.ev f) (c.args.toList.map v.ev) ⟨tm', hp, m⟩ ⟨tm', hp, m⟩
      conv => rhs; rw [h2]
      rw [Eff.to_re]
    | invoke r m => rw [hc] at h; cases h
    | builtin b => rw [hc] at h; cases h

end Go.Cellar
