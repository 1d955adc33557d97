/- Regions that draw their order may be taken in the order of the text. No condition. -/
import Derived.Test.YtjdjmbogopadaaaGreatDoorAbs19s
set_option linter.unusedVariables false
set_option linter.unusedSimpArgs false
namespace Go.Cellar
open Go

def dstOf (ops : Array Oper) (k : Nat) : Option Nat := (ops[k]?).bind (·.dst)

/-- Does the k-th operation bear on a slot? -/
def Aff (ops : Array Oper) (cl : Nat → Nat) (k t : Nat) : Prop := 4 ≤ cl k ∨ dstOf ops k = some t

/-- The state when just the operations of D have run. -/
structure InvD (ops : Array Oper) (st : Nat → St) (cl : Nat → Nat) (D : Nat → Prop) (S : St) : Prop where
  tm : ∀ t j, j ≤ ops.size → (j = 0 ∨ ∃ i, j = i + 1 ∧ D i ∧ Aff ops cl i t) → (∀ k, j ≤ k → k < ops.size → D k → ¬ Aff ops cl k t) → S.tm[t]? = (st j).tm[t]?
  hp : ∀ j, j ≤ ops.size → (j = 0 ∨ ∃ i, j = i + 1 ∧ D i ∧ 2 ≤ cl i) → (∀ k, j ≤ k → k < ops.size → D k → cl k < 2) → S.hp = (st j).hp ∧ S.m = (st j).m

theorem St.ext' {s s' : St} (h1 : s.tm = s'.tm) (h2 : s.hp = s'.hp) (h3 : s.m = s'.m) : s = s' := by
  cases s; cases s'; simp_all

theorem lastver (p : Nat → Prop) : ∀ i, ∃ j, j ≤ i ∧ (j = 0 ∨ ∃ k, j = k + 1 ∧ p k) ∧ ∀ k, j ≤ k → k < i → ¬ p k
  | 0 => ⟨0, Nat.le_refl _, .inl rfl, fun k h1 h2 => by omega⟩
  | i + 1 => by
    by_cases h : p i
    · exact ⟨i + 1, Nat.le_refl _, .inr ⟨i, rfl, h⟩, fun k h1 h2 => by omega⟩
    · obtain ⟨j, h1, h2, h3⟩ := lastver p i
      refine ⟨j, by omega, h2, fun k hk hk' => ?_⟩
      by_cases hki : k = i
      · subst hki; exact h
      · exact h3 k hk (by omega)

/-! ### what a step leaves alone -/

theorem put_tm_ne {s : St} {dst : Option Nat} {v : AV} {t : Nat} (h : dst ≠ some t) : (s.put dst v).tm[t]? = s.tm[t]? := by
  cases dst with
  | none => rfl
  | some d =>
    have : d ≠ t := fun e => h (by rw [e])
    simp [St.put, List.getElem?_set_ne this]

theorem put_tm_eq {s : St} {d : Nat} {v : AV} : (s.put (some d) v).tm[d]? = (s.tm[d]?).map fun _ => v := by
  simp only [St.put, List.getElem?_set_self']
  rfl

theorem put_hp {s : St} {dst : Option Nat} {v : AV} : (s.put dst v).hp = s.hp := by cases dst <;> rfl
theorem put_m {s : St} {dst : Option Nat} {v : AV} : (s.put dst v).m = s.m := by cases dst <;> rfl

theorem gives_to {e : Eff} {v : AV} {s1 : St} (h : e.gives v s1) (s : St) : (e.to s).gives v s := by
  cases e <;> simp only [Eff.gives, Eff.to] at h ⊢
  · exact ⟨h.1, trivial⟩
  · exact ⟨h.1, h.2.1, trivial⟩
  · exact ⟨h.1, trivial⟩

theorem gives_re {e : Eff} {v : AV} {s1 : St} (h : e.gives v s1) (tm : List AV) : (e.re tm).gives v ⟨tm, s1.hp, s1.m⟩ := by
  cases e <;> simp only [Eff.gives, Eff.re] at h ⊢
  · obtain ⟨h1, rfl⟩ := h; exact ⟨h1, rfl⟩
  · obtain ⟨h0, h1, rfl⟩ := h; exact ⟨h0, h1, rfl⟩
  · obtain ⟨h1, rfl⟩ := h; exact ⟨h1, rfl⟩

theorem gives_to_state {e : Eff} {v : AV} {s s1 : St} (h : (e.to s).gives v s1) : s1 = s := by
  cases e <;> simp only [Eff.gives, Eff.to] at h
  · exact h.2.symm
  · exact h.2.2.symm
  · exact h.2.symm

theorem gives_re_tm {e : Eff} {v : AV} {tm : List AV} {s1 : St} (h : (e.re tm).gives v s1) : s1.tm = tm := by
  cases e <;> simp only [Eff.gives, Eff.re] at h
  · rw [← h.2]
  · rw [← h.2.2]
  · rw [← h.2]

/-- A soft operation, at its place in the text: what it leaves. -/
theorem op_leaves {P : Program} {o : Oper} {s s1 : St} {v : AV} (h : (aOp P o s).gives v s1) (hc : cls s o.op < 4) : s1.tm = s.tm ∧ (cls s o.op < 2 → s1 = s) ∧ (cls s o.op < 3 → (∃ ext, s1.hp = s.hp ++ ext) ∧ s1.m = s.m) := by
  rw [aOp_at] at h
  unfold cls at hc
  cases hp : pureAt s o.op with
  | true =>
    rw [aOpAt_idle P o hp s s] at h
    have := gives_to_state h
    subst this
    exact ⟨rfl, fun _ => rfl, fun _ => ⟨⟨[], by simp⟩, rfl⟩⟩
  | false =>
    cases hr : readOp o.op with
    | true =>
      have h0 := aOpAt_looks P o s hr s.tm s.tm s.hp s.m
      have h' : ((aOpAt P o s s).to s).gives v s1 := by
        have : aOpAt P o s s = (aOpAt P o s s).to s := h0
        rw [← this]; exact h
      have := gives_to_state h'
      subst this
      exact ⟨rfl, fun _ => rfl, fun _ => ⟨⟨[], by simp⟩, rfl⟩⟩
    | false =>
      cases ha : allocAt s o.op with
      | true =>
        have h0 := aOpAt_allocs P o s ha s.tm s.tm s.hp s.m
        have h' : ((aOpAt P o s s).re s.tm).gives v s1 := by
          have : aOpAt P o s s = (aOpAt P o s s).re s.tm := h0
          rw [← this]; exact h
        refine ⟨gives_re_tm h', fun hc2 => ?_, fun _ => aOpAt_ext P o s ha h⟩
        unfold cls at hc2
        rw [hp, hr, ha] at hc2
        simp at hc2
      | false =>
        cases hw : writeAt s o.op with
        | true =>
          have h0 := aOpAt_writes P o s hw s.tm s.tm s.hp s.m
          have h' : ((aOpAt P o s s).re s.tm).gives v s1 := by
            have : aOpAt P o s s = (aOpAt P o s s).re s.tm := h0
            rw [← this]; exact h
          have hcl : cls s o.op = 3 := by unfold cls; rw [hp, hr, ha, hw]
          exact ⟨gives_re_tm h', fun hc2 => by omega, fun hc2 => by omega⟩
        | false => rw [hp, hr, ha, hw] at hc; simp at hc

/-- The same operation on other slots, where its operands are the same. -/
theorem op_moves {P : Program} {o : Oper} {s s1 S : St} {v : AV} (h : (aOp P o s).gives v s1) (hev : ∀ x ∈ o.op.operands, S.ev x = s.ev x) (hc : cls s o.op < 4) (hr1 : cls s o.op = 1 → ∀ r ∈ fpOf s o.op 1, S.hp[r]? = s.hp[r]?) (hh : 2 ≤ cls s o.op → S.hp = s.hp ∧ S.m = s.m) :
    ∃ S1, (aOp P o S).gives v S1 ∧ S1.tm = S.tm ∧ (cls s o.op < 2 → S1 = S) ∧ (2 ≤ cls s o.op → S1.hp = s1.hp ∧ S1.m = s1.m) := by
  rw [aOp_at] at h ⊢
  rw [aOpAt_same P o S hev]
  cases hp : pureAt s o.op with
  | true =>
    have hc0 : cls s o.op = 0 := by unfold cls; rw [hp]
    rw [aOpAt_idle P o hp S s]
    exact ⟨S, gives_to h S, rfl, fun _ => rfl, fun h2 => by omega⟩
  | false =>
    cases hr : readOp o.op with
    | true =>
      have hc1 : cls s o.op = 1 := by unfold cls; rw [hp, hr]
      have h0 : aOpAt P o s S = (aOpAt P o s s).to S := aOpAt_local P o s hr s S (hr1 hc1)
      rw [h0]
      exact ⟨S, gives_to h S, rfl, fun _ => rfl, fun h2 => by omega⟩
    | false =>
      have hwr : Writes (aOpAt P o s) ∧ 2 ≤ cls s o.op := by
        cases ha : allocAt s o.op with
        | true => exact ⟨aOpAt_allocs P o s ha, by unfold cls; rw [hp, hr, ha]; exact Nat.le_refl 2⟩
        | false =>
          cases hw : writeAt s o.op with
          | true => exact ⟨aOpAt_writes P o s hw, by unfold cls; rw [hp, hr, ha, hw]; decide⟩
          | false => unfold cls at hc; rw [hp, hr, ha, hw] at hc; simp at hc
      obtain ⟨e1, e2⟩ := hh hwr.2
      have h0 : aOpAt P o s S = (aOpAt P o s s).re S.tm := by
        have := hwr.1 S.tm s.tm s.hp s.m
        have eS : S = ⟨S.tm, s.hp, s.m⟩ := St.ext' rfl e1 e2
        rw [show aOpAt P o s S = aOpAt P o s ⟨S.tm, s.hp, s.m⟩ from by rw [← eS]]; exact this
      rw [h0]
      have := hwr.2
      exact ⟨_, gives_re h S.tm, rfl, fun h2 => by omega, fun _ => ⟨rfl, rfl⟩⟩

/-- A writer leaves all but what it writes. -/
theorem op_writes {P : Program} {o : Oper} {s s1 : St} {v : AV} (h : (aOp P o s).gives v s1) (hc : cls s o.op = 3) : s1.hp.length = s.hp.length ∧ ∀ r, r ∉ fpOf s o.op 3 → s1.hp[r]? = s.hp[r]? := by
  have hw : writeAt s o.op = true := by
    unfold cls at hc
    cases hp : pureAt s o.op <;> rw [hp] at hc <;> simp only at hc
    · cases hr : readOp o.op <;> rw [hr] at hc <;> simp only at hc
      · cases ha : allocAt s o.op <;> rw [ha] at hc <;> simp only at hc
        · cases hw : writeAt s o.op
          · rw [hw] at hc; simp at hc
          · rfl
        · omega
      · omega
    · omega
  rw [aOp_at] at h
  unfold aOpAt at h
  obtain ⟨dst, op, type, pos, after, guard⟩ := o
  cases op <;> simp only [writeAt, Bool.false_eq_true] at hw <;> dsimp only at h
  case store t a x =>
    split at hw
    · rename_i r off hv
      rw [hv] at h
      unfold aStore at h
      dsimp only at h
      split at h
      · split at h
        · obtain ⟨_, rfl⟩ := h
          refine ⟨by simp, fun r' hr' => ?_⟩
          simp only [fpOf, hv, AV.refs, List.mem_singleton] at hr'
          rw [List.getElem?_set_ne (fun e => hr' e.symm)]
        · exact h.elim
      · exact h.elim
    · cases hw
  case call c =>
    cases hcc : c.callee with
    | value f =>
      rw [hcc] at h
      dsimp only at h
      have h2 := aValCall_idle P (s.ev f) (c.args.toList.map s.ev) s s
      rw [h2] at h
      have := gives_to_state h
      subst this
      exact ⟨rfl, fun _ _ => rfl⟩
    | invoke r m => rw [hcc] at hw; cases hw
    | builtin b => rw [hcc] at hw; cases hw

/-! ### calls that are handed boxes alone -/

mutual
theorem calm_sub {hp : List AO} {tr : List Nat} (hb : ∀ r ∈ tr, isFixed hp r = true) : ∀ a : AV, a.calm tr = true → a.sub (gStale hp tr) = a
  | .junk, _ | .int _ _, _ | .bool _, _ | .str _, _ | .list _ _ _, _ | .nils, _ | .iptr _, _ | .nilp, _ | .nilf, _ | .nili, _ | .maybe _, _ => by simp [AV.sub]
  | .view r lo hi, h => by
    simp only [AV.calm, Bool.not_eq_true'] at h
    simp only [AV.sub, gStale, h, Bool.false_eq_true, if_false]
  | .rptr r i off, h => by
    simp only [AV.calm, Bool.not_eq_true'] at h
    simp only [AV.sub, gStale, h, Bool.false_eq_true, if_false]
  | .ptr r off, _ => by
    simp only [AV.sub, gStale]
    split
    · rename_i hq
      simp only [Bool.and_eq_true, Bool.not_eq_true'] at hq
      have := hb r (by simpa using hq.1)
      rw [this] at hq
      cases hq.2
    · rfl
  | .func fn f c, h => by
    simp only [AV.calm, Bool.and_eq_true] at h
    simp [AV.sub, calmL_sub hb f h.1, calmL_sub hb c h.2]
  | .agg cs, h => by simp only [AV.calm] at h; simp [AV.sub, calmL_sub hb cs h]
  | .tup cs, h => by simp only [AV.calm] at h; simp [AV.sub, calmL_sub hb cs h]
theorem calmL_sub {hp : List AO} {tr : List Nat} (hb : ∀ r ∈ tr, isFixed hp r = true) : ∀ as : List AV, AV.calmL tr as = true → AV.subL (gStale hp tr) as = as
  | [], _ => by simp [AV.subL]
  | a :: as, h => by
    simp only [AV.calmL, Bool.and_eq_true] at h
    simp [AV.subL, calm_sub hb a h.1, calmL_sub hb as h.2]
end

theorem calmO_sub {hp : List AO} {tr : List Nat} (hb : ∀ r ∈ tr, isFixed hp r = true) (o : AO) (h : o.calm tr = true) : o.sub (gStale hp tr) = o := by
  cases o with
  | box cs => simp only [AO.calm] at h; simp [AO.sub, calmL_sub hb cs h]
  | bld T v => simp only [AO.calm] at h; simp [AO.sub, calm_sub hb v h]
  | _ => rfl

theorem box_fixed {hp : List AO} {r : Nat} (h : isBox hp r = true) : isFixed hp r = true := by
  unfold isBox at h
  unfold isFixed
  split at h
  · rename_i hq; rw [hq]
  · rename_i hq; rw [hq]
  · cases h

theorem box_shape {hp : List AO} {r : Nat} (h : isBox hp r = true) : rowShape hp r = none := by
  unfold isBox at h
  unfold rowShape
  split at h
  · rename_i hq; rw [hq]
  · rename_i hq; rw [hq]
  · cases h

mutual
/-- Nothing looks into a box. -/
theorem rep_calm {E : Env} {tr : List Nat} (hb : ∀ r ∈ tr, isBox E.hp r = true) : ∀ (a : AV) (v : Value), Rep E a v → a.calm tr = true
  | .junk, _, _ | .int _ _, _, _ | .bool _, _, _ | .str _, _, _ | .list _ _ _, _, _ | .nils, _, _ | .iptr _, _, _ | .nilp, _, _ | .nilf, _, _ | .nili, _, _ | .maybe _, _, _ | .ptr _ _, _, _ => by simp [AV.calm]
  | .view r lo hi, v, h => by
    simp only [Rep] at h
    obtain ⟨sz, n, h1, _⟩ := h
    simp only [AV.calm, Bool.not_eq_true']
    cases hc : tr.contains r with
    | false => rfl
    | true =>
      have := box_shape (hb r (by simpa using hc))
      rw [this] at h1
      cases h1
  | .rptr r i off, v, h => by
    simp only [Rep] at h
    obtain ⟨b, sz, n, _, h1, _⟩ := h
    simp only [AV.calm, Bool.not_eq_true']
    cases hc : tr.contains r with
    | false => rfl
    | true =>
      have := box_shape (hb r (by simpa using hc))
      rw [this] at h1
      cases h1
  | .func fn f c, v, h => by
    simp only [Rep] at h
    obtain ⟨fs, cs, _, h1, h2⟩ := h
    simp [AV.calm, repL_calm hb f _ h1, repL_calm hb c _ h2]
  | .agg cs, v, h => by
    simp only [Rep] at h
    obtain ⟨vs, _, h1⟩ := h
    simp [AV.calm, repL_calm hb cs _ h1]
  | .tup cs, v, h => by
    simp only [Rep] at h
    obtain ⟨vs, _, h1⟩ := h
    simp [AV.calm, repL_calm hb cs _ h1]
theorem repL_calm {E : Env} {tr : List Nat} (hb : ∀ r ∈ tr, isBox E.hp r = true) : ∀ (as : List AV) (vs : List Value), RepL E as vs → AV.calmL tr as = true
  | [], _, _ => by simp [AV.calmL]
  | a :: as, vs, h => by
    simp only [RepL] at h
    obtain ⟨v, vs', _, h1, h2⟩ := h
    simp [AV.calmL, rep_calm hb a v h1, repL_calm hb as vs' h2]
end

/-- The objects behind such a call. -/
def wroteTo (hp : List AO) (tr : List Nat) (hout : List AO) : List AO :=
  writeBack (gBack tr hp.length) tr (hout.take tr.length) hp ++ (hout.drop tr.length).map (AO.sub (gBack tr hp.length))

theorem write_state {k : Site} {res : AV} {hout : List AO} (h : callW k.s k.tr k.bor = true) :
    k.state res hout = (⟨k.s.tm, wroteTo k.s.hp k.tr hout, k.s.m⟩, AV.sub (gBack k.tr k.s.hp.length) res) := by
  unfold callW at h
  simp only [Bool.and_eq_true, List.isEmpty_iff, List.all_eq_true] at h
  obtain ⟨⟨⟨hb, hx⟩, ht⟩, ho⟩ := h
  have hf : ∀ r ∈ k.tr, isFixed k.s.hp r = true := fun r hr => box_fixed (hx r hr)
  unfold Site.state Site.base
  rw [hb]
  dsimp only
  have e1 : k.s.mapv (gStale k.s.hp k.tr) = k.s := by
    unfold St.mapv
    rw [calmL_sub hf _ ht]
    have : k.s.hp.map (AO.sub (gStale k.s.hp k.tr)) = k.s.hp := by
      calc k.s.hp.map (AO.sub (gStale k.s.hp k.tr)) = k.s.hp.map id := List.map_congr_left fun o hm => calmO_sub hf o (ho o hm)
        _ = k.s.hp := List.map_id _
    rw [this]
  rw [e1]
  rfl

theorem writeBack_off (g : AV → AV) : ∀ (rs : List Nat) (os : List AO) (hp : List AO) (r : Nat), r ∉ rs → (writeBack g rs os hp)[r]? = hp[r]?
  | [], os, hp, r, _ => by cases os <;> rfl
  | q :: rs, [], hp, r, _ => rfl
  | q :: rs, o :: os, hp, r, h => by
    simp only [List.mem_cons, not_or] at h
    rw [writeBack, writeBack_off g rs os _ r h.2, List.getElem?_set_ne (fun e => h.1 e.symm)]

theorem wroteTo_at {hp : List AO} {tr : List Nat} {hout : List AO} : hp.length ≤ (wroteTo hp tr hout).length ∧ ∀ r, r < hp.length → r ∉ tr → (wroteTo hp tr hout)[r]? = hp[r]? := by
  have hl := writeBack_length (gBack tr hp.length) tr (hout.take tr.length) hp
  refine ⟨by unfold wroteTo; rw [List.length_append, hl]; omega, fun r hr hn => ?_⟩
  unfold wroteTo
  rw [List.getElem?_append_left (by rw [hl]; exact hr), writeBack_off _ _ _ _ r hn]

/-! ### calls that are handed nothing -/

theorem reach_nil (hp : List AO) : ∀ n, reach hp n [] = []
  | 0 => rfl
  | n + 1 => by rw [reach]; exact reach_nil hp n

mutual
theorem AV.sub_free {g : AV → AV} : ∀ a : AV, a.refs = [] → a.sub g = a
  | .junk, _ | .int _ _, _ | .bool _, _ | .str _, _ | .list _ _ _, _ | .nils, _ | .iptr _, _ | .nilp, _ | .nilf, _ | .nili, _ | .maybe _, _ => by simp [AV.sub]
  | .view _ _ _, h => by simp [AV.refs] at h
  | .ptr _ _, h => by simp [AV.refs] at h
  | .rptr _ _ _, h => by simp [AV.refs] at h
  | .func fn f c, h => by
    simp only [AV.refs, List.append_eq_nil_iff] at h
    simp [AV.sub, AV.subL_free f h.1, AV.subL_free c h.2]
  | .agg cs, h => by simp only [AV.refs] at h; simp [AV.sub, AV.subL_free cs h]
  | .tup cs, h => by simp only [AV.refs] at h; simp [AV.sub, AV.subL_free cs h]
theorem AV.subL_free {g : AV → AV} : ∀ as : List AV, AV.refsL as = [] → AV.subL g as = as
  | [], _ => by simp [AV.subL]
  | a :: as, h => by
    simp only [AV.refsL, List.append_eq_nil_iff] at h
    simp [AV.subL, AV.sub_free a h.1, AV.subL_free as h.2]
end

theorem handed_free {n : String} {args : List AV} (hr : AV.refsL args = []) : handed n args = [] := by
  unfold handed; split
  · exact hr
  · rfl

theorem callStep_free {P : Program} {mode : Mode} {todo : List Item} {s : St} {dst : Option Nat} {f : Nat} {args : List AV} (hr : AV.refsL args = []) (hp : AV.ptrsL args = []) :
    callStep P mode todo s dst f args = match P.funcs[f]? with
      | none => .fail 1
      | some fn => .call f (canonArgs P fn.params.toList args) [] ⟨mode, todo, s, dst, [], []⟩ := by
  unfold callStep
  cases P.funcs[f]? with
  | none => rfl
  | some fn =>
    simp only [handed_free hr, List.append_nil, hr, hp, addNew, reach_nil, List.filter_nil, List.all_nil, List.map_nil]
    rw [AV.subL_free args hr]

theorem gStale_nil (hp : List AO) : gStale hp [] = fun v => v := by
  funext v
  unfold gStale
  split <;> simp

theorem mapv_id (s : St) : s.mapv (fun v => v) = s := by
  unfold St.mapv
  rw [AV.subL_id]
  have : s.hp.map (AO.sub fun v => v) = s.hp := by
    have h : ∀ o : AO, o.sub (fun v => v) = o := fun o => by cases o <;> simp [AO.sub, AV.subL_id, AV.sub_id]
    rw [show (AO.sub fun v => v) = id from funext h, List.map_id]
  rw [this]

theorem state_free {k : Site} {res : AV} {hout : List AO} (ht : k.tr = []) (hb : k.bor = []) :
    k.state res hout = (⟨k.s.tm, k.s.hp ++ hout.map (AO.sub (gBack [] k.s.hp.length)), k.s.m⟩, AV.sub (gBack [] k.s.hp.length) res) := by
  unfold Site.state Site.base
  rw [hb, ht]
  dsimp only
  rw [gStale_nil, mapv_id]
  rfl

/-- The state behind a call that was lent rows, and may not hold on to them. -/
theorem state_lent {k : Site} {res : AV} {hout : List AO} (ht : k.tr = []) (hl : (res.lists || hout.any AO.lists) = false) :
    k.state res hout = (⟨k.s.tm, k.s.hp ++ hout.map (AO.sub (gBack [] k.s.hp.length)), k.s.m⟩, AV.sub (gBack [] k.s.hp.length) res) := by
  have hb : k.base (res.lists || hout.any AO.lists) = k.s := by
    unfold Site.base
    rw [hl]
    cases k.bor <;> rfl
  unfold Site.state
  rw [hb, ht]
  dsimp only
  rw [gStale_nil, mapv_id]
  rfl

theorem callCls_zero {res : AV} {hout : List AO} (h : callCls res hout = 0) : hout = [] ∧ res.refs = [] := by
  unfold callCls at h
  split at h
  · rename_i hb
    simp only [Bool.and_eq_true, List.isEmpty_iff] at hb
    exact hb
  · cases h

theorem callCls_lt (res : AV) (hout : List AO) : callCls res hout < 3 := by unfold callCls; split <;> omega

end Go.Cellar
