
import Derived.Test.YtaopgboniaeeaaaDoorAbs30
/- A box that is made at a function's beginning and only read from then on: frozen, its pointers hold their cells themselves. -/
set_option autoImplicit false
set_option linter.unusedVariables false
set_option linter.unusedSimpArgs false
namespace Go.Cellar
open Go

def gBox (r : Nat) (cs : List AV) : AV → AV
  | .ptr r' off => if r' = r then .iptr (cs.drop off) else .ptr r' off
  | v => v

def St.fixBox (r : Nat) (cs : List AV) (s : St) : St := ⟨AV.subL (gBox r cs) s.tm, (s.hp.map (AO.sub (gBox r cs))).set r .dead, s.m⟩

theorem refsL_drop : ∀ (cs : List AV) (n : Nat), AV.refsL cs = [] → AV.refsL (cs.drop n) = []
  | [], n, h => by simp [AV.refsL]
  | c :: cs, 0, h => h
  | c :: cs, n + 1, h => by
    simp only [AV.refsL, List.append_eq_nil_iff] at h
    exact refsL_drop cs n h.2

theorem HSim.fixBox {I : Inp} {w : World} {bl : List (Option Nat)} {hp : List AO} (h : HSim I w bl hp) (r : Nat) (cs : List AV) (hr : hp[r]? = some (.box cs)) (hcs : AV.refsL cs = []) (hm : I.hin.length ≤ r) :
    HSim I w (bl.set r none) ((hp.map (AO.sub (gBox r cs))).set r .dead) ∧ SubOk (I.env w bl hp) (I.env w (bl.set r none) ((hp.map (AO.sub (gBox r cs))).set r .dead)) (gBox r cs) := by
  have hrl : r < hp.length := (List.getElem?_eq_some_iff.mp hr).1
  obtain ⟨k, vs, e, hb0, hk, hrep⟩ := h.obj r _ hr
  have hbk : bl[r]? = some (some k) := by
    rw [Option.join_eq_some_iff] at hb0; exact hb0
  have hback : ∀ (r' b : Nat), (bl.set r none)[r']? = some (some b) → bl[r']? = some (some b) ∧ r' ≠ r := by
    intro r' b h1
    by_cases e1 : r = r'
    · subst e1
      rw [List.getElem?_set_self (by rw [h.len]; exact hrl)] at h1
      cases h1
    · rw [List.getElem?_set_ne e1] at h1
      exact ⟨h1, Ne.symm e1⟩
  have hsh : ∀ r', rowShape ((hp.map (AO.sub (gBox r cs))).set r .dead) r' = rowShape hp r' := by
    intro r'
    unfold rowShape
    by_cases e1 : r = r'
    · subst e1
      rw [List.getElem?_set_self (by simpa using hrl), hr]
    · rw [List.getElem?_set_ne e1, List.getElem?_map]
      cases hp[r']? with
      | none => rfl
      | some o => cases o <;> rfl
  have hok : OkLe w (I.ok bl) w (I.ok (bl.set r none)) := fun b hb _ =>
    ⟨⟨hb.1, fun hm => by obtain ⟨j, hj⟩ := mem_bl hm; exact hb.2 (List.mem_of_getElem? (hback j b hj).1)⟩, rfl⟩
  have hokk : I.ok (bl.set r none) k := by
    refine ⟨?_, fun hm => ?_⟩
    · rcases (h.at_ r k hbk).2 with h1 | h1
      · exact .inr (.inl h1)
      · exact .inr (.inr h1)
    · obtain ⟨j, hj⟩ := mem_bl hm
      obtain ⟨h2, h3⟩ := hback j k hj
      exact h3 (h.inj j r k h2 hbk)
  have hsub : SubOk (I.env w bl hp) (I.env w (bl.set r none) ((hp.map (AO.sub (gBox r cs))).set r .dead)) (gBox r cs) := by
    refine ⟨hok, ?_, ?_, ?_⟩
    · intro r' lo hi v hv
      simp only [gBox]
      simp only [Rep] at hv ⊢
      obtain ⟨sz, n, h1, h2, h3, ad, cap, h4, h5, h6⟩ := hv
      refine ⟨sz, n, (hsh r').trans h1, h2, h3, ad, cap, h4, h5, ?_⟩
      rcases h6 with h6 | ⟨b, hb, ha, hs⟩
      · exact .inl h6
      · refine .inr ⟨b, ?_, ha, hs⟩
        have hne : r ≠ r' := by
          intro e1
          subst e1
          have h1' : rowShape hp r = some (sz, n) := h1
          simp [rowShape, hr] at h1'
        show (bl.set r none)[r']? = _
        rw [List.getElem?_set_ne hne]; exact hb
    · intro r' off v hv
      simp only [gBox]
      simp only [Rep] at hv
      obtain ⟨b, hb, rfl⟩ := hv
      have hb : bl[r']? = some (some b) := hb
      by_cases e1 : r' = r
      · subst e1
        rw [if_pos rfl]
        have hb2 : k = b := Option.some.inj (Option.some.inj (hbk.symm.trans hb))
        subst hb2
        simp only [Rep]
        refine ⟨⟨k, off, none⟩, vs.toList.drop off, rfl, rfl, fun _ => hokk, ?_, refsL_drop cs off hcs, ?_⟩
        · intro j hj
          show w.cell? ⟨k, off + j, none⟩ = _
          have hk' : w.heap[k]? = some (.cells vs e (0, 0)) := hk
          have hlt : off + j < vs.size := by simp only [List.length_drop, Array.length_toList] at hj; omega
          simp only [World.cell?, hk', Option.isSome_none, Bool.false_eq_true, if_false]
          rw [Array.getElem?_eq_getElem hlt]
          simp
        · exact RepL.drop off (RepL.plainMono hok cs vs.toList hcs hrep)
      · rw [if_neg e1]
        simp only [Rep]
        refine ⟨b, ?_, rfl⟩
        show (bl.set r none)[r']? = _
        rw [List.getElem?_set_ne (Ne.symm e1)]; exact hb
    · intro r' i off v hv
      simp only [gBox]
      simp only [Rep] at hv ⊢
      obtain ⟨b, sz, n, hb, hs, rfl⟩ := hv
      have hne : r ≠ r' := by
        intro e1
        subst e1
        have h1' : rowShape hp r = some (sz, n) := hs
        simp [rowShape, hr] at h1'
      refine ⟨b, sz, n, ?_, (hsh r').trans hs, rfl⟩
      show (bl.set r none)[r']? = _
      rw [List.getElem?_set_ne hne]; exact hb
  refine ⟨h.ext hsub (by simp [h.len]) (by simp) (fun r1 r2 b h1 h2 => h.inj r1 r2 b (hback _ _ h1).1 (hback _ _ h2).1) (fun r1 b h1 => h.at_ r1 b (hback _ _ h1).1) ?_ (Nat.le_refl _) (fun _ _ _ => rfl) rfl rfl rfl ?_, hsub⟩
  · intro r1 o h1
    by_cases e1 : r = r1
    · subst e1
      left
      rw [List.getElem?_set_self (by simpa using hrl)] at h1
      simp only [Option.some.injEq] at h1
      subst h1
      trivial
    · right
      rw [List.getElem?_set_ne e1, List.getElem?_map] at h1
      cases h2 : hp[r1]? with
      | none => simp [h2] at h1
      | some o0 =>
        rw [h2] at h1
        simp only [Option.map_some, Option.some.injEq] at h1
        exact ⟨r1, o0, h2, h1.symm, by rw [List.getElem?_set_ne e1], fun _ _ => rfl⟩
  · intro j o o1 hj hf hj1 hf1
    have hjl : j < I.hin.length := (List.getElem?_eq_some_iff.mp hj).1
    have e1 : r ≠ j := by omega
    refine ⟨by rw [List.getElem?_set_ne e1], AO.sub (gBox r cs) o1, by rw [List.getElem?_set_ne e1, List.getElem?_map, hj1]; rfl, ?_⟩
    cases o1 <;> simp_all [AO.sub, AO.fixed]

theorem Sim.fixBox {I : Inp} {w : World} {bl : List (Option Nat)} {s : St} {tmps : List Value} (h : Sim I w bl s tmps) (r : Nat) (cs : List AV) (hr : s.hp[r]? = some (.box cs)) (hcs : AV.refsL cs = []) (hm : s.m ≤ r) :
    ∃ bl', Sim I w bl' (s.fixBox r cs) tmps := by
  obtain ⟨h1, h2⟩ := h.h.fixBox r cs hr hcs (by rw [← h.m]; exact hm)
  exact ⟨_, ⟨h1, RepL.sub h2 _ _ h.tm, h.m⟩⟩

/-- The box that a slot points at, if it may be frozen. -/
def Cfg.fixBox (t : Nat) (c : Cfg) : Option Cfg :=
  match isRun c.mode, c.s.tm.getD t .junk with
  | true, .ptr r 0 => match c.s.hp[r]? with
    | some (.box cs) => match (AV.refsL cs).isEmpty && Nat.ble c.s.m r with
      | true => some ⟨c.mode, c.todo, c.s.fixBox r cs⟩
      | false => none
    | _ => none
  | _, _ => none

def Step.fixBox (t : Nat) : Step → Option Cfg
  | .next c => c.fixBox t
  | _ => none

section
variable {P : Program} {f : Nat} {res : AV} {hout : List AO} {c : Cfg}

theorem fixBox_goes {c c' : Cfg} {t : Nat} (h : c.fixBox t = some c') (h' : Goes P f c' res hout) : Goes P f c res hout := by
  unfold Cfg.fixBox at h
  split at h
  · rename_i hm htm
    split at h
    · rename_i cs hr
      split at h
      · rename_i hc
        simp only [Option.some.injEq] at h
        subst h
        simp only [Bool.and_eq_true, List.isEmpty_iff] at hc
        have hm' : c.mode = .run := by unfold isRun at hm; split at hm <;> first | assumption | cases hm
        unfold Goes at h' ⊢
        rw [hm'] at h' ⊢
        intro I w bl tv b fs hf hk hS hG
        obtain ⟨bl', hS'⟩ := hS.fixBox _ cs hr hc.1 (Nat.le_of_ble_eq_true hc.2)
        exact h' I w bl' tv b fs hf hk hS' hG
      · cases h
    · cases h
  · cases h

/-- The box of slot t frozen behind the first n steps. -/
theorem W.box (n t : Nat) (h : ((runTo P 0 n c).fixBox t).isSome = true) (h' : Walk P f (((runTo P 0 n c).fixBox t).getD noCfg) res hout) : Walk P f c res hout := by
  refine ⟨run_goes 0 n ?_⟩
  cases hs : runTo P 0 n c <;> rw [hs] at h h' <;> simp only [Step.fixBox, Option.isSome_none, Bool.false_eq_true] at h h'
  rename_i c0
  cases hc : c0.fixBox t with
  | none => rw [hc] at h; cases h
  | some c' =>
    rw [hc] at h'
    exact fixBox_goes hc h'.it

end
end Go.Cellar
