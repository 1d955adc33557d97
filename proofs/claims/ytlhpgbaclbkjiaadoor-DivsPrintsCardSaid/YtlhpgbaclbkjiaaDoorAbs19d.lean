/- Operations of a class do the same on the same operands. No condition. -/
import Derived.Test.YtlhpgbaclbkjiaaDoorAbs19c
set_option linter.unusedVariables false
set_option linter.unusedSimpArgs false
namespace Go.Cellar
open Go

theorem Eff.to_to (e : Eff) (s s' : St) : (e.to s).to s' = e.to s' := by cases e <;> rfl

theorem Idle.self {F : St → Eff} (h : Idle F) (s : St) : F s = (F s).to s := h s s

/-! ### readers -/

/-- The same objects, other slots. -/
def Looks (F : St → Eff) : Prop := ∀ tm tm' hp m, F ⟨tm, hp, m⟩ = (F ⟨tm', hp, m⟩).to ⟨tm, hp, m⟩

theorem aLoad_looks (P : Program) (t : TypeId) (a : AV) : Looks (aLoad P t a) := fun tm tm' hp m => by
  unfold aLoad
  cases a <;> dsimp only <;> first | rfl | (split <;> first | rfl | (split <;> rfl))

theorem viewList_looks (P : Program) (a b : TypeId) (x : AV) : Looks (aConvert P a b x) := fun tm tm' hp m => by
  unfold aConvert
  cases h1 : P.underlying a with
  | none => rfl
  | some d1 =>
    cases h2 : P.underlying b with
    | none => cases d1 <;> rfl
    | some d2 =>
      split
      · rfl
      · rfl
      · rfl
      · dsimp only
        split <;> rfl
      · split <;> rfl
      · split <;> rfl
      · rfl

theorem aLen_looks (P : Program) (t : TypeId) (x : AV) : Looks (aLen P t x) := fun tm tm' hp m => by
  unfold aLen
  cases hu : P.underlying t with
  | none => rfl
  | some d => cases d <;> first | rfl | (cases x <;> first | rfl | (dsimp only; split <;> rfl))

theorem aIndexAddr_looks (P : Program) (t : TypeId) (x i : AV) : Looks (aIndexAddr P t x i) := fun tm tm' hp m => by
  unfold aIndexAddr
  dsimp only
  repeat' (first | rfl | split)

theorem aSlice_looks (P : Program) (t : TypeId) (x : AV) (lo hi mx : Option AV) : Looks (aSlice P t x lo hi mx) := fun tm tm' hp m => by
  unfold aSlice
  dsimp only
  repeat' (first | rfl | split)

theorem get_ext {hp : List AO} {r : Nat} {o : AO} (ext : List AO) (h : hp[r]? = some o) : (hp ++ ext)[r]? = some o := by
  rw [List.getElem?_append_left (List.getElem?_eq_some_iff.1 h).1]; exact h

/-- More objects behind: what went well goes the same. -/
def Grows (F : St → Eff) : Prop := ∀ tm hp m ext v s1, (F ⟨tm, hp, m⟩).gives v s1 → F ⟨tm, hp ++ ext, m⟩ = (F ⟨tm, hp, m⟩).to ⟨tm, hp ++ ext, m⟩

theorem aLoad_grows (P : Program) (t : TypeId) (a : AV) : Grows (aLoad P t a) := fun tm hp m ext v s1 h => by
  unfold aLoad at h ⊢
  split at h
  · rename_i r off
    try dsimp only at h ⊢
    cases hr : hp[r]? with
    | none => rw [hr] at h; exact h.elim
    | some o => rw [get_ext ext hr]; cases o <;> (try dsimp only) <;> first | rfl | (split <;> rfl)
  · (try dsimp only); split <;> rfl
  · rename_i r i off
    try dsimp only at h ⊢
    cases hr : hp[r]? with
    | none => rw [hr] at h; exact h.elim
    | some o => rw [get_ext ext hr]; cases o <;> (try dsimp only) <;> first | rfl | (split <;> rfl)
  · exact h.elim

theorem aConvert_grows (P : Program) (a b : TypeId) (x : AV) : Grows (aConvert P a b x) := fun tm hp m ext v s1 h => by
  unfold aConvert at h ⊢
  split at h
  · rfl
  · rfl
  · rfl
  · rename_i e r lo hi _ _
    try dsimp only at h ⊢
    cases hr : hp[r]? with
    | none =>
      unfold viewList at h
      rw [hr] at h
      dsimp only at h
      exfalso
      split at h
      · rename_i h1 h2; cases h2
      · exact h
    | some o =>
      unfold viewList
      rw [get_ext ext hr, hr]
      cases o <;> dsimp only <;> split <;> rfl
  · (try dsimp only); split <;> rfl
  · (try dsimp only); split <;> rfl
  · exact h.elim

theorem aLen_grows (P : Program) (t : TypeId) (x : AV) : Grows (aLen P t x) := fun tm hp m ext v s1 h => by
  unfold aLen at h ⊢
  split at h
  · rfl
  · rfl
  · rfl
  · rfl
  · rename_i e r lo hi _
    try dsimp only at h ⊢
    cases hr : hp[r]? with
    | none => rw [hr] at h; exact h.elim
    | some o => rw [get_ext ext hr]; cases o <;> rfl
  · exact h.elim

theorem aIndexAddr_grows (P : Program) (t : TypeId) (x i : AV) : Grows (aIndexAddr P t x i) := fun tm hp m ext v s1 h => by
  unfold aIndexAddr at h ⊢
  split at h
  · (try dsimp only); split <;> rfl
  · rename_i e r lo hi k i _
    try dsimp only at h ⊢
    cases hr : hp[r]? with
    | none => rw [hr] at h; exact h.elim
    | some o =>
      rw [get_ext ext hr]
      cases o <;> try dsimp only
      · rfl
      · rfl
      · split
        · cases hi <;> rfl
        · rfl
      · split
        · cases hi <;> rfl
        · rfl
  · rename_i n e r k i _
    try dsimp only at h ⊢
    cases hr : hp[r]? with
    | none => rw [hr] at h; exact h.elim
    | some o => rw [get_ext ext hr]; cases o <;> (try dsimp only) <;> first | rfl | (split <;> rfl)
  · exact h.elim

theorem aSlice_grows (P : Program) (t : TypeId) (x : AV) (lo hi mx : Option AV) : Grows (aSlice P t x lo hi mx) := fun tm hp m ext v s1 h => by
  unfold aSlice at h ⊢
  split at h
  · (try dsimp only at h ⊢)
    split at h
    · rfl
    · (try dsimp only); split <;> rfl
    · (try dsimp only); split <;> rfl
    · rename_i r lo0 hi0 _
      try dsimp only at h ⊢
      cases hr : hp[r]? with
      | none => rw [hr] at h; exact h.elim
      | some o =>
        rw [get_ext ext hr]
        cases o <;> try dsimp only
        · rfl
        · rfl
        · split
          · split <;> rfl
          · rfl
        · rfl
    · rename_i r _
      try dsimp only at h ⊢
      cases hr : hp[r]? with
      | none => rw [hr] at h; exact h.elim
      | some o => rw [get_ext ext hr]; cases o <;> (try dsimp only) <;> first | rfl | (split <;> rfl)
    · exact h.elim
  · (try dsimp only at h ⊢)
    split at h
    · (try dsimp only); split <;> rfl
    · (try dsimp only); split <;> rfl
    · exact h.elim
  · exact h.elim

/-! ### writers -/

def Writes (F : St → Eff) : Prop := ∀ tm tm' hp m, F ⟨tm, hp, m⟩ = (F ⟨tm', hp, m⟩).re tm

theorem aAlloc_writes (P : Program) (t : TypeId) : Writes (aAlloc P t) := fun tm tm' hp m => by
  unfold aAlloc
  split
  · split
    · split <;> rfl
    · rfl
  · split <;> rfl

theorem aBox_writes (v : AV) : Writes (aBox v) := fun tm tm' hp m => by
  unfold aBox; split <;> rfl

theorem aMakeSlice_writes (P : Program) (t : TypeId) (l c : AV) : Writes (aMakeSlice P t l c) := fun tm tm' hp m => by
  unfold aMakeSlice
  split
  · split
    · split <;> rfl
    · rfl
  · rfl

theorem aStore_writes (P : Program) (t : TypeId) (r off : Nat) (v : AV) : Writes (aStore P t (.ptr r off) v) := fun tm tm' hp m => by
  unfold aStore
  dsimp only
  split
  · split <;> rfl
  · rfl

/-! ### one operation -/

theorem mem_ops_list {xs : Array Operand} {x : Operand} (h : x ∈ xs.toList) : x ∈ xs := by simpa using h

theorem evs_same {s1 s2 : St} {xs : Array Operand} (h : ∀ x ∈ xs, s2.ev x = s1.ev x) : xs.toList.map s2.ev = xs.toList.map s1.ev :=
  List.map_congr_left fun x hx => h x (by simpa using hx)

theorem pairs_same {s1 s2 : St} {ps : Array (Nat × Operand)} (h : ∀ x ∈ ps.map (·.2), s2.ev x = s1.ev x) : (ps.toList.map fun p => (p.1, s2.ev p.2)) = ps.toList.map fun p => (p.1, s1.ev p.2) :=
  List.map_congr_left fun p hp => by rw [h p.2 (Array.mem_map.mpr ⟨p, by simpa using hp, rfl⟩)]

theorem opt_same {s1 s2 : St} {x : Option Operand} (h : ∀ y, x = some y → s2.ev y = s1.ev y) : x.map s2.ev = x.map s1.ev := by
  cases x with
  | none => rfl
  | some y => simp [h y rfl]

/-- The operands' values, and the state, as two things. -/
def aOpAt (P : Program) (o : Oper) (v s : St) : Eff :=
  match o.op with
  | .move x | .assign x => .val (v.ev x) s
  | .pick c a b => aPick (v.ev c) (v.ev a) (v.ev b) s
  | .alloc t => aAlloc P t s
  | .box _ x => aBox (v.ev x) s
  | .build t parts => aBuild P t (parts.toList.map fun p => (p.1, v.ev p.2)) s
  | .buildSlice t len parts => aBuildSlice P t len (parts.toList.map fun p => (p.1, v.ev p.2)) s
  | .load t a => aLoad P t (v.ev a) s
  | .store t a x => aStore P t (v.ev a) (v.ev x) s
  | .nilCheck x => aNil (v.ev x) s
  | .binOp op t x y _ => aBin P op t (v.ev x) (v.ev y) s
  | .unOp op _ x => aUn op (v.ev x) s
  | .convert a b x => aConvert P a b (v.ev x) s
  | .makeFunc fn first caps => .val (.func fn (first.toList.map v.ev) (caps.toList.map v.ev)) s
  | .makeSlice t l c => aMakeSlice P t (v.ev l) (v.ev c) s
  | .slice t x lo hi mx => aSlice P t (v.ev x) (lo.map v.ev) (hi.map v.ev) (mx.map v.ev) s
  | .fieldAddr t x f => aFieldAddr P t (v.ev x) f s
  | .field t x f => aField P t (v.ev x) f s
  | .indexAddr t x i => aIndexAddr P t (v.ev x) (v.ev i) s
  | .index t x i => aIndex P t (v.ev x) (v.ev i) s
  | .extract x i => aExtract (v.ev x) i s
  | .call c => match c.callee with
    | .builtin b => aBuiltin P b c.argTypes.toList (c.args.toList.map v.ev) s
    | .invoke _ _ => .fail
    | .value f => aValCall P (v.ev f) (c.args.toList.map v.ev) s
  | _ => .fail

theorem aOp_at (P : Program) (o : Oper) (s : St) : aOp P o s = aOpAt P o s s := by
  unfold aOp aOpAt
  cases o.op <;> rfl

theorem aOpAt_same (P : Program) (o : Oper) {s1 s2 : St} (s : St) (h : ∀ x ∈ o.op.operands, s2.ev x = s1.ev x) : aOpAt P o s2 s = aOpAt P o s1 s := by
  unfold aOpAt
  obtain ⟨dst, op, type, pos, after, guard⟩ := o
  cases op <;> simp only [Op.operands] at h <;> dsimp only
  case build t ps => rw [pairs_same fun x hx => h x (by simpa using hx)]
  case buildSlice t n ps => rw [pairs_same fun x hx => h x (by simpa using hx)]
  case makeFunc fn first captured => rw [evs_same (xs := first) fun x hx => h x (by simp [hx]), evs_same (xs := captured) fun x hx => h x (by simp [hx])]
  case call c =>
    have ha : c.args.toList.map s2.ev = c.args.toList.map s1.ev := evs_same fun x hx => h x (by simp [Call.operands, hx])
    cases hc : c.callee with
    | value f => have hf : s2.ev f = s1.ev f := h f (by simp [Call.operands, hc]); simp only [hf, ha]
    | invoke r m => rfl
    | builtin b => simp only [ha]
  case slice t x lo hi mx =>
    have h0 : s2.ev x = s1.ev x := h x (by simp)
    rw [h0, opt_same (x := lo) fun y hy => h y (by simp [hy]), opt_same (x := hi) fun y hy => h y (by simp [hy]), opt_same (x := mx) fun y hy => h y (by simp [hy])]
  all_goals (first | rfl | (simp_all; done))

theorem aOpAt_idle (P : Program) (o : Oper) {v : St} (h : pureAt v o.op = true) : Idle (aOpAt P o v) := by
  intro s s'
  unfold aOpAt
  obtain ⟨dst, op, type, pos, after, guard⟩ := o
  cases op <;> simp only [pureAt, Bool.false_eq_true] at h <;> dsimp only
  case move => rfl
  case assign => rfl
  case pick => exact aPick_idle _ _ _ _ _
  case build => exact aBuild_idle _ _ _ _ _
  case load t a =>
    split at h
    · rename_i hv; rw [hv]; exact aLoad_idle _ _ _ _ _
    · cases h
  case nilCheck => exact aNil_idle _ _ _
  case binOp => exact aBin_idle _ _ _ _ _ _ _
  case unOp => exact aUn_idle _ _ _ _
  case convert a b x => exact aConvert_idle _ _ _ _ (fun r lo hi hv => by rw [hv] at h; cases h) _ _
  case makeFunc => rfl
  case slice t x lo hi mx =>
    refine aSlice_idle _ _ _ _ _ _ ?_ _ _
    split at h
    · rename_i b hv; exact .inl ⟨b, hv⟩
    · rename_i ty l f hv; exact .inr (.inl ⟨ty, l, f, hv⟩)
    · rename_i hv; exact .inr (.inr hv)
    · cases h
  case fieldAddr => exact aFieldAddr_idle _ _ _ _ _ _
  case field => exact aField_idle _ _ _ _ _ _
  case indexAddr t x i =>
    split at h
    · rename_i hv; rw [hv]; exact aIndexAddr_idle _ _ _ _ _ _ _ _
    · cases h
  case index => exact aIndex_idle _ _ _ _ _ _
  case extract => exact aExtract_idle _ _ _ _
  case call c =>
    cases hc : c.callee with
    | value f => exact aValCall_idle _ _ _ _ _
    | invoke r m => rfl
    | builtin b =>
      rw [hc] at h
      cases b <;> simp only [Bool.false_eq_true] at h <;> dsimp only
      case len =>
        unfold aBuiltin
        cases hargs : c.args.toList.map v.ev with
        | nil => cases c.argTypes.toList <;> rfl
        | cons a as =>
          cases ht : c.argTypes.toList with
          | nil => rfl
          | cons t ts => exact aLen_idle _ _ _ (fun r lo hi hv => by rw [hargs, hv] at h; cases h) _ _
      case max => unfold aBuiltin; split <;> first | rfl | contradiction
      case min => unfold aBuiltin; split <;> first | rfl | contradiction


theorem aOpAt_looks (P : Program) (o : Oper) (v : St) (h : readOp o.op = true) : Looks (aOpAt P o v) := by
  intro tm tm' hp m
  unfold aOpAt
  obtain ⟨dst, op, type, pos, after, guard⟩ := o
  cases op <;> simp only [readOp, Bool.false_eq_true] at h <;> dsimp only
  case load => exact aLoad_looks _ _ _ _ _ _ _
  case convert => exact viewList_looks _ _ _ _ _ _ _ _
  case slice => exact aSlice_looks _ _ _ _ _ _ _ _ _ _
  case indexAddr => exact aIndexAddr_looks _ _ _ _ _ _ _ _
  case call c =>
    cases hc : c.callee with
    | value f => rw [hc] at h; cases h
    | invoke r m => rw [hc] at h; cases h
    | builtin b =>
      rw [hc] at h
      cases b <;> simp only [Bool.false_eq_true] at h <;> dsimp only
      unfold aBuiltin
      cases hargs : c.args.toList.map v.ev with
      | nil => cases c.argTypes.toList <;> rfl
      | cons a as =>
        cases ht : c.argTypes.toList with
        | nil => rfl
        | cons t ts => exact aLen_looks _ _ _ _ _ _ _

theorem aOpAt_grows (P : Program) (o : Oper) (v : St) (h : readOp o.op = true) : Grows (aOpAt P o v) := by
  intro tm hp m ext w s1 hg
  unfold aOpAt at hg ⊢
  obtain ⟨dst, op, type, pos, after, guard⟩ := o
  cases op <;> simp only [readOp, Bool.false_eq_true] at h <;> dsimp only at hg ⊢
  case load => exact aLoad_grows _ _ _ _ _ _ _ _ _ hg
  case convert => exact aConvert_grows _ _ _ _ _ _ _ _ _ _ hg
  case slice => exact aSlice_grows _ _ _ _ _ _ _ _ _ _ _ _ hg
  case indexAddr => exact aIndexAddr_grows _ _ _ _ _ _ _ _ _ _ hg
  case call c =>
    cases hc : c.callee with
    | value f => rw [hc] at h; cases h
    | invoke r m => rw [hc] at h; cases h
    | builtin b =>
      rw [hc] at h hg
      cases b <;> simp only [Bool.false_eq_true] at h <;> dsimp only at hg ⊢
      unfold aBuiltin at hg ⊢
      cases hargs : c.args.toList.map v.ev with
      | nil => rw [hargs] at hg; cases ht : c.argTypes.toList <;> (rw [ht] at hg; exact hg.elim)
      | cons a as =>
        cases ht : c.argTypes.toList with
        | nil => rw [hargs, ht] at hg; exact hg.elim
        | cons t ts => rw [hargs, ht] at hg; exact aLen_grows _ _ _ _ _ _ _ _ _ hg

theorem aOpAt_allocs (P : Program) (o : Oper) (v : St) (h : allocOp o.op = true) : Writes (aOpAt P o v) := by
  intro tm tm' hp m
  unfold aOpAt
  obtain ⟨dst, op, type, pos, after, guard⟩ := o
  cases op <;> simp only [allocOp, Bool.false_eq_true] at h <;> dsimp only
  case alloc => exact aAlloc_writes _ _ _ _ _ _
  case box => exact aBox_writes _ _ _ _ _
  case makeSlice => exact aMakeSlice_writes _ _ _ _ _ _ _ _

/-- What makes an object leaves the others. -/
theorem aOpAt_ext (P : Program) (o : Oper) (v : St) (h : allocOp o.op = true) {s s1 : St} {w : AV} (hg : (aOpAt P o v s).gives w s1) : (∃ ext, s1.hp = s.hp ++ ext) ∧ s1.m = s.m := by
  unfold aOpAt at hg
  obtain ⟨dst, op, type, pos, after, guard⟩ := o
  cases op <;> simp only [allocOp, Bool.false_eq_true] at h <;> dsimp only at hg
  case alloc =>
    unfold aAlloc at hg
    split at hg
    · split at hg
      · split at hg
        · obtain ⟨_, rfl⟩ := hg; exact ⟨⟨_, rfl⟩, rfl⟩
        · exact hg.elim
      · exact hg.elim
    · split at hg
      · obtain ⟨_, rfl⟩ := hg; exact ⟨⟨_, rfl⟩, rfl⟩
      · exact hg.elim
  case box =>
    unfold aBox at hg
    split at hg
    · exact hg.elim
    · obtain ⟨_, rfl⟩ := hg; exact ⟨⟨_, rfl⟩, rfl⟩
  case makeSlice =>
    unfold aMakeSlice at hg
    split at hg
    · split at hg
      · split at hg
        · obtain ⟨_, _, rfl⟩ := hg; exact ⟨⟨_, rfl⟩, rfl⟩
        · exact hg.elim
      · exact hg.elim
    · exact hg.elim

theorem aOpAt_writes (P : Program) (o : Oper) (v : St) (h : writeAt v o.op = true) : Writes (aOpAt P o v) := by
  intro tm tm' hp m
  unfold aOpAt
  obtain ⟨dst, op, type, pos, after, guard⟩ := o
  cases op <;> simp only [writeAt, Bool.false_eq_true] at h <;> dsimp only
  case store t a x =>
    split at h
    · rename_i hv; rw [hv]; exact aStore_writes _ _ _ _ _ _ _ _ _
    · cases h

end Go.Cellar
