
import Derived.Test.YtjdjmbogopadaaaGreatDoorAbs30

/- A box that is made at a function's beginning and only read from then on: frozen, its pointers hold their cells themselves. -/
set_option autoImplicit false
set_option linter.unusedVariables false
set_option linter.unusedSimpArgs false
namespace Go.Cellar
open Go

def gBox (r : Nat) (cs : List AV) : AV → AV
  | .ptr r' off => if r' = r then .iptr (cs.drop off) else .ptr r' off
  | v => v

def St.fixBox (r : Nat) (cs : List AV) (s : St) : St := ⟨AV.subL (gBox r cs) s.tm, (s.hp.map (AO.sub (gBox r cs))).set r .dead, s.m⟩

theorem refsL_drop : ∀ (cs : List AV) (n : Nat), AV.refsL cs = [] → AV.refsL (cs.drop n) = []
  | [], n, h => by simp [AV.refsL]
  | c :: cs, 0, h => h
  | c :: cs, n + 1, h => by
    simp only [AV.refsL, List.append_eq_nil_iff] at h
    exact refsL_drop cs n h.2

theorem HSim.fixBox {I : Inp} {w : World} {bl : List (Option Nat)} {hp : List AO} (h : HSim I w bl hp) (r : Nat) (cs : List AV) (hr : hp[r]? = some (.box cs)) (hcs : AV.refsL cs = []) (hm : I.hin.length ≤ r) :
    HSim I w (bl.set r none) ((hp.map (AO.sub (gBox r cs))).set r .dead) ∧ SubOk (I.env w bl hp) (I.env w (bl.set r none) ((hp.map (AO.sub (gBox r cs))).set r .dead)) (gBox r cs) := by
  have hrl : r < hp.length := (List.getElem?_eq_some_iff.mp hr).1
  obtain ⟨k, vs, e, hb0, hk, hrep⟩ := h.obj r _ hr
  have hbk : bl[r]? = some (some k) := by
    rw [Option.join_eq_some_iff] at hb0; exact hb0
  have hback : ∀ (r' b : Nat), (bl.set r none)[r']? = some (some b) → bl[r']? = some (some b) ∧ r' ≠ r := by
    intro r' b h1
    by_cases e1 : r = r'
    · subst e1
      rw [List.getElem?_set_self (by rw [h.len]; exact hrl)] at h1
      cases h1
    · rw [List.getElem?_set_ne e1] at h1
      exact ⟨h1, Ne.symm e1⟩
  have hsh : ∀ r', rowShape ((hp.map (AO.sub (gBox r cs))).set r .dead) r' = rowShape hp r' := by
    intro r'
    unfold rowShape
    by_cases e1 : r = r'
    · subst e1
      rw [List.getElem?_set_self (by simpa using hrl), hr]
    · rw [List.getElem?_set_ne e1, List.getElem?_map]
      cases hp[r']? with
      | none => rfl
      | some o => cases o <;> rfl
  have hok : OkLe w (I.ok bl) w (I.ok (bl.set r none)) := fun b hb _ =>
    ⟨⟨hb.1, fun hm => by obtain ⟨j, hj⟩ := mem_bl hm; exact hb.2 (List.mem_of_getElem? (hback j b hj).1)⟩, rfl⟩
  have hokk : I.ok (bl.set r none) k := by
    refine ⟨?_, fun hm => ?_⟩
    · rcases (h.at_ r k hbk).2 with h1 | h1
      · exact .inr (.inl h1)
      · exact .inr (.inr h1)
    · obtain ⟨j, hj⟩ := mem_bl hm
      obtain ⟨h2, h3⟩ := hback j k hj
      exact h3 (h.inj j r k h2 hbk)
  have hsub : SubOk (I.env w bl hp) (I.env w (bl.set r none) ((hp.map (AO.sub (gBox r cs))).set r .dead)) (gBox r cs) := by
    refine ⟨hok, ?_, ?_, ?_⟩
    · intro r' lo hi v hv
      simp only [gBox]
      simp only [Rep] at hv ⊢
      obtain ⟨sz, n, h1, h2, h3, ad, cap, h4, h5, h6⟩ := hv
      refine ⟨sz, n, (hsh r').trans h1, h2, h3, ad, cap, h4, h5, ?_⟩
      rcases h6 with h6 | ⟨b, hb, ha, hs⟩
      · exact .inl h6
      · refine .inr ⟨b, ?_, ha, hs⟩
        have hne : r ≠ r' := by
          intro e1
          subst e1
          have h1' : rowShape hp r = some (sz, n) := h1
          simp [rowShape, hr] at h1'
        show (bl.set r none)[r']? = _
        rw [List.getElem?_set_ne hne]; exact hb
    · intro r' off v hv
      simp only [gBox]
      simp only [Rep] at hv
      obtain ⟨b, hb, rfl⟩ := hv
      have hb : bl[r']? = some (some b) := hb
      by_cases e1 : r' = r
      · subst e1
        rw [if_pos rfl]
        have hb2 : k = b := Option.some.inj (Option.some.inj (hbk.symm.trans hb))
        subst hb2
        simp only [Rep]
        refine ⟨⟨k, off, none⟩, vs.toList.drop off, rfl, rfl, fun _ => hokk, ?_, refsL_drop cs off hcs, ?_⟩
        · intro j hj
          show w.cell? ⟨k, off + j, none⟩ = _
          have hk' : w.heap[k]? = some (.cells vs e (0, 0)) := hk
          have hlt : off + j < vs.size := by simp only [List.length_drop, Array.length_toList] at hj; omega
          simp only [World.cell?, hk', Option.isSome_none, Bool.false_eq_true, if_false]
          rw [Array.getElem?_eq_getElem hlt]
          simp
        · exact RepL.drop off (RepL.plainMono hok cs vs.toList hcs hrep)
      · rw [if_neg e1]
        simp only [Rep]
        refine ⟨b, ?_, rfl⟩
        show (bl.set r none)[r']? = _
        rw [List.getElem?_set_ne (Ne.symm e1)]; exact hb
    · intro r' i off v hv
      simp only [gBox]
      simp only [Rep] at hv ⊢
      obtain ⟨b, sz, n, hb, hs, rfl⟩ := hv
      have hne : r ≠ r' := by
        intro e1
        subst e1
        have h1' : rowShape hp r = some (sz, n) := hs
        simp [rowShape, hr] at h1'
      refine ⟨b, sz, n, ?_, (hsh r').trans hs, rfl⟩
      show (bl.set r none)[r']? = _
      rw [List.getElem?_set_ne hne]; exact hb
  refine ⟨h.ext hsub (by simp [h.len]) (by simp) (fun r1 r2 b h1 h2 => h.inj r1 r2 b (hback _ _ h1).1 (hback _ _ h2).1) (fun r1 b h1 => h.at_ r1 b (hback _ _ h1).1) ?_ (Nat.le_refl _) (fun _ _ _ => rfl) rfl rfl rfl ?_, hsub⟩
  · intro r1 o h1
    by_cases e1 : r = r1
    · subst e1
      left
      rw [List.getElem?_set_self (by simpa using hrl)] at h1
      simp only [Option.some.injEq] at h1
      subst h1
      trivial
    · right
      rw [List.getElem?_set_ne e1, List.getElem?_map] at h1
      cases h2 : hp[r1]? with
      | none => simp [h2] at h1
      | some o0 =>
        rw [h2] at h1
        simp only [Option.map_some, Option.some.injEq] at h1
        exact ⟨r1, o0, h2, h1.symm, by rw [List.getElem?_set_ne e1], fun _ _ => rfl⟩
  · intro j o o1 hj hf hj1 hf1
    have hjl : j < I.hin.length := (List.getElem?_eq_some_iff.mp hj).1
    have e1 : r ≠ j := by omega
    refine ⟨by rw [List.getElem?_set_ne e1], AO.sub (gBox r cs) o1, by rw [List.getElem?_set_ne e1, List.getElem?_map, hj1]; rfl, ?_⟩
    cases o1 <;> simp_all [AO.sub, AO.fixed]

theorem Sim.fixBox {I : Inp} {w : World} {bl : List (Option Nat)} {s : St} {tmps : List Value} (h : Sim I w bl s tmps) (r : Nat) (cs : List AV) (hr : s.hp[r]? = some (.box cs)) (hcs : AV.refsL cs = []) (hm : s.m ≤ r) :
    ∃ bl', Sim I w bl' (s.fixBox r cs) tmps := by
  obtain ⟨h1, h2⟩ := h.h.fixBox r cs hr hcs (by rw [← h.m]; exact hm)
  exact ⟨_, ⟨h1, RepL.sub h2 _ _ h.tm, h.m⟩⟩

/-- The box that a slot points at, if it may be frozen. -/
def Cfg.fixBox (t : Nat) (c : Cfg) : Option Cfg :=
  match isRun c.mode, c.s.tm.getD t .junk with
  | true, .ptr r 0 => match c.s.hp[r]? with
    | some (.box cs) => match (AV.refsL cs).isEmpty && Nat.ble c.s.m r with
      | true => some ⟨c.mode, c.todo, c.s.fixBox r cs⟩
      | false => none
    | _ => none
  | _, _ => none

def Step.fixBox (t : Nat) : Step → Option Cfg
  | .next c => c.fixBox t
  | _ => none

section
variable {P : Program} {f : Nat} {res : AV} {hout : List AO} {c : Cfg}

theorem fixBox_goes {c c' : Cfg} {t : Nat} (h : c.fixBox t = some c') (h' : Goes P f c' res hout) : Goes P f c res hout := by
  unfold Cfg.fixBox at h
  split at h
  · rename_i hm htm
    split at h
    · rename_i cs hr
      split at h
      · rename_i hc
        simp only [Option.some.injEq] at h
        subst h
        simp only [Bool.and_eq_true, List.isEmpty_iff] at hc
        have hm' : c.mode = .run := by unfold isRun at hm; split at hm <;> first | assumption | cases hm
        unfold Goes at h' ⊢
        rw [hm'] at h' ⊢
        intro I w bl tv b fs hf hk hS hG
        obtain ⟨bl', hS'⟩ := hS.fixBox _ cs hr hc.1 (Nat.le_of_ble_eq_true hc.2)
        exact h' I w bl' tv b fs hf hk hS' hG
      · cases h
    · cases h
  · cases h

/-- The box of slot t frozen behind the first n steps. -/
theorem W.box (n t : Nat) (h : ((runTo P 0 n c).fixBox t).isSome = true) (h' : Walk P f (((runTo P 0 n c).fixBox t).getD noCfg) res hout) : Walk P f c res hout := by
  refine ⟨run_goes 0 n ?_⟩
  cases hs : runTo P 0 n c <;> rw [hs] at h h' <;> simp only [Step.fixBox, Option.isSome_none, Bool.false_eq_true] at h h'
  rename_i c0
  cases hc : c0.fixBox t with
  | none => rw [hc] at h; cases h
  | some c' =>
    rw [hc] at h'
    exact fixBox_goes hc h'.it

end
end Go.Cellar


/- A call's new row taken as data at once. -/
set_option autoImplicit false
set_option linter.unusedVariables false
namespace Go.Cellar
open Go

theorem Con.data {P : Program} {f : Nat} {args : List AV} {t : Ty} {l : List t.T} (h : Con P f args [] (.view 0 0 none) [.row t l]) : Con P f args [] (.list t l false) [] := by
  intro J vals hJ hsim hrep hG
  refine (h J vals hJ hsim hrep hG).mono fun e w' ⟨v, he, bl2, h1, h2⟩ => ?_
  obtain ⟨h3, h4⟩ := h1.freeze' [0]
  have h5 := h4.view 0 0 none v h2
  have h6 : gFreeze [.row t l] [0] (.view 0 0 none) = .list t l false := rfl
  rw [h6] at h5
  have hm : J.hin.length = 0 := by rw [hJ]; rfl
  obtain ⟨bl3, h7, h8⟩ := pack_ok (vs := [.list t l false]) (us := [v]) (m := 0) h3 ⟨v, [], rfl, h5, rfl⟩ hm.symm
  refine ⟨v, he, bl3, ?_⟩
  obtain ⟨v', vs', hv, h9, _⟩ := h8
  cases hv
  exact ⟨h7, h9⟩

end Go.Cellar


/- A nil slice in a box taken as a list of one's own, so that it may grow in a loop. -/
set_option autoImplicit false
set_option linter.unusedVariables false
set_option linter.unusedSimpArgs false
namespace Go.Cellar
open Go

theorem HSim.growCell {I : Inp} {w : World} {bl : List (Option Nat)} {hp : List AO} (h : HSim I w bl hp) (r i : Nat) (cs : List AV) (ty : Ty) (hr : hp[r]? = some (.box cs)) (hi : cs[i]? = some .nils) :
    HSim I w (bl ++ [none]) ((hp ++ [AO.row ty []]).set r (.box (cs.set i (.view hp.length 0 none)))) ∧
    ∀ l1 l2, RepL (I.env w bl hp) l1 l2 → RepL (I.env w (bl ++ [none]) ((hp ++ [AO.row ty []]).set r (.box (cs.set i (.view hp.length 0 none))))) l1 l2 := by
  obtain ⟨h1, h2⟩ := h.ghost ty
  have hrl : r < hp.length := (List.getElem?_eq_some_iff.mp hr).1
  have hr1 : (hp ++ [AO.row ty []])[r]? = some (.box cs) := by rw [List.getElem?_append_left hrl]; exact hr
  obtain ⟨k, vs, e, hb, hk, hrep⟩ := h1.obj r _ hr1
  have hbk : (bl ++ [none])[r]? = some (some k) := by
    rw [Option.join_eq_some_iff] at hb; exact hb
  obtain ⟨h3, h4⟩ := h1.same r k (.box (cs.set i (.view hp.length 0 none))) hbk (fun _ _ => rfl) rfl (Nat.le_refl _) rfl rfl rfl
    (fun x hx => by simp [rowShape, hr1] at hx) (fun _ _ _ => rfl) (fun hle => by
      refine ⟨k, vs, e, rfl, hk, ?_⟩
      have hlen := hrep.length
      have hil : i < cs.length := (List.getElem?_eq_some_iff.mp hi).1
      have hg := hrep.get i hil (by omega)
      rw [(List.getElem?_eq_some_iff.mp hi).2] at hg
      simp only [Rep] at hg
      have hset := (RepL.mono hle hrep).set i (a := .view hp.length 0 none) (v := vs.toList[i]'(by omega)) (by
        simp only [Rep]
        rw [hg]
        refine ⟨ty.size, 0, ?_, by simp, by simp, none, 0, by simp, Nat.le_refl _, .inl rfl⟩
        show rowShape ((hp ++ [AO.row ty []]).set r _) hp.length = _
        rw [rowShape_set_ne (by omega)]
        simp [rowShape])
      rwa [List.set_getElem_self] at hset)
  exact ⟨h3, fun l1 l2 h5 => RepL.mono h4 (RepL.mono h2 h5)⟩

/-- The box that slot t points at: its cell i, nil so far, is a list of one's own. -/
def Cfg.grow (t i : Nat) (ty : Ty) (c : Cfg) : Option Cfg :=
  match isRun c.mode, c.s.tm.getD t .junk with
  | true, .ptr r 0 => match c.s.hp[r]? with
    | some (.box cs) => match cs[i]? with
      | some .nils => some ⟨c.mode, c.todo, ⟨c.s.tm, (c.s.hp ++ [AO.row ty []]).set r (.box (cs.set i (.view c.s.hp.length 0 none))), c.s.m⟩⟩
      | _ => none
    | _ => none
  | _, _ => none

def Step.grow (t i : Nat) (ty : Ty) : Step → Option Cfg
  | .next c => c.grow t i ty
  | .loop c => c.grow t i ty
  | _ => none

section
variable {P : Program} {f : Nat} {res : AV} {hout : List AO} {c : Cfg}

theorem grow_goes {c c' : Cfg} {t i : Nat} {ty : Ty} (h : c.grow t i ty = some c') (h' : Goes P f c' res hout) : Goes P f c res hout := by
  unfold Cfg.grow at h
  split at h
  · rename_i hm htm
    split at h
    · rename_i cs hr
      split at h
      · rename_i hc
        simp only [Option.some.injEq] at h
        subst h
        have hm' : c.mode = .run := by unfold isRun at hm; split at hm <;> first | assumption | cases hm
        unfold Goes at h' ⊢
        rw [hm'] at h' ⊢
        intro I w bl tv b fs hf hk hS hG
        obtain ⟨h1, h2⟩ := hS.h.growCell _ i cs ty hr hc
        exact h' I w _ tv b fs hf hk ⟨h1, h2 _ _ hS.tm, hS.m⟩ hG
      · cases h
    · cases h
  · cases h

theorem W.grow (d n t i : Nat) (ty : Ty) (h : ((runTo P d n c).grow t i ty).isSome = true) (h' : Walk P f (((runTo P d n c).grow t i ty).getD noCfg) res hout) : Walk P f c res hout := by
  refine ⟨run_goes d n ?_⟩
  cases hs : runTo P d n c <;> rw [hs] at h h' <;> simp only [Step.grow, Option.isSome_none, Bool.false_eq_true] at h h'
  all_goals
    rename_i c0
    cases hc : c0.grow t i ty with
    | none => rw [hc] at h; cases h
    | some c' =>
      rw [hc] at h'
      exact grow_goes hc h'.it

/-- The same at a loop's head, and cut. -/
def Step.growCut (t i : Nat) (ty : Ty) (co : List Co) (keep : List Nat) (s : Step) : Option Cfg :=
  match s.grow t i ty with
  | some c => match isRun c.mode with
    | true => some (c.cut co keep)
    | false => none
  | none => none

theorem W.growAt (d n t i : Nat) (ty : Ty) (co : List Co) (keep : List Nat) {c' : Cfg} (h : (runTo P d n c).growCut t i ty co keep = some c') (h' : Walk P f c' res hout) : Walk P f c res hout := by
  unfold Step.growCut at h
  split at h
  · rename_i c1 hc
    split at h
    · rename_i hm
      simp only [Option.some.injEq] at h
      subst h
      refine W.grow d n t i ty (by rw [hc]; rfl) ?_
      rw [hc]
      exact ⟨cut_goes (by unfold isRun at hm; split at hm <;> first | assumption | cases hm) co keep h'.it⟩
    · cases h
  · cases h

end
end Go.Cellar
