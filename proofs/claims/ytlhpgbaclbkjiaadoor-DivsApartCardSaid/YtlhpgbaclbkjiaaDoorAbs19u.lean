/- Regions that draw their order may be taken in the order of the text. No condition. -/
import Derived.Test.YtlhpgbaclbkjiaaDoorAbs19t
set_option linter.unusedVariables false
set_option linter.unusedSimpArgs false
namespace Go.Cellar
open Go

theorem slots_order {ops : Array Oper} (hs : slotsOk ops = true) {i j : Nat} (hij : i < j) {a b : Oper} (ha : ops[i]? = some a) (hb : ops[j]? = some b) (hn : (befB ops j).testBit i = false) : Oper.apart ops a b = true := by
  unfold slotsOk at hs
  rw [List.all_eq_true] at hs
  have hj : j < ops.size := (Array.getElem?_eq_some_iff.1 hb).1
  have h1 := hs j (List.mem_range.mpr hj)
  rw [List.all_eq_true] at h1
  have h2 := h1 i (List.mem_range.mpr hij)
  rw [ha, hb] at h2
  simp only [Bool.or_eq_true] at h2
  rcases h2 with h2 | h2
  · exact h2
  · unfold befB at hn; rw [hn] at h2; cases h2

section
variable {P : Program} {f : Nat} {res : AV} {hout : List AO} {ops : Array Oper} {st : Nat → St} {cl : Nat → Nat} {D : Nat → Prop} {S : St}

/-- k and i stand in order, whichever way. -/
def Ordered (ops : Array Oper) (k i : Nat) : Prop := (k < i → (befB ops i).testBit k = true) ∧ (i < k → (befB ops k).testBit i = true)

theorem confl_ordered (H : ∀ j, j < ops.size → Fact P ops st cl j) {i k : Nat} (hi : i < ops.size) (hk : k < ops.size) (h1 : Confl (cl k) (cl i)) (h2 : Confl (cl i) (cl k)) : Ordered ops k i := by
  refine ⟨fun h => ?_, fun h => ?_⟩
  · obtain ⟨_, _, _, _, h3⟩ := H i hi; exact h3 k h h1
  · obtain ⟨_, _, _, _, h3⟩ := H k hk; exact h3 i h h2

theorem aff_ordered (H : ∀ j, j < ops.size → Fact P ops st cl j) (hs : slotsOk ops = true) {i k t : Nat} {o : Oper} (hi : i < ops.size) (hk : k < ops.size) (hne : k ≠ i) (ho : ops[i]? = some o)
    (ht : t ∈ o.looksAt ops ∨ o.dst = some t) (ha : Aff ops cl k t) : Ordered ops k i := by
  rcases ha with ha | ha
  · exact confl_ordered H hi hk (.inl ha) (.inr (.inl ha))
  · unfold dstOf at ha
    cases hok : ops[k]? with
    | none => rw [hok] at ha; cases ha
    | some ok =>
      rw [hok] at ha
      simp only [Option.bind_some] at ha
      refine ⟨fun h => ?_, fun h => ?_⟩
      · cases hb : (befB ops i).testBit k with
        | true => rfl
        | false =>
          obtain ⟨h1, h2, h3⟩ := Oper.apart_spec (slots_order hs h hok ho hb)
          rcases ht with ht | ht
          · exact absurd ht (h1 t ha)
          · exact absurd ht (h2 t ha)
      · cases hb : (befB ops k).testBit i with
        | true => rfl
        | false =>
          obtain ⟨h1, h2, h3⟩ := Oper.apart_spec (slots_order hs h ho hok hb)
          rcases ht with ht | ht
          · exact absurd ht (h3 t ha)
          · exact absurd ha (h2 t ht)

/-- An operation that is about to run. -/
structure Next (ops : Array Oper) (D : Nat → Prop) (i : Nat) (o : Oper) : Prop where
  ho : ops[i]? = some o
  closed : Closed ops D
  fresh : ¬ D i
  deps : ∀ e ∈ o.after, Region.binds .any e = true → D e.on

theorem Next.lt {i : Nat} {o : Oper} (h : Next ops D i o) : i < ops.size := (Array.getElem?_eq_some_iff.1 h.ho).1

theorem Next.below {i k : Nat} {o : Oper} (h : Next ops D i o) (ho : Ordered ops k i) (hk : k < i) : D k := ready_before h.closed h.ho h.deps (ho.1 hk)
theorem Next.above {i k : Nat} {o : Oper} (h : Next ops D i o) (ho : Ordered ops k i) (hk : i < k) : ¬ D k := fun hd => h.fresh (closed_before h.closed k i hd (ho.2 hk))

theorem callCls_cases (res : AV) (hout : List AO) : callCls res hout = 0 ∨ callCls res hout = 2 := by
  unfold callCls; split
  · exact .inl rfl
  · exact .inr rfl

theorem dstep_free {mode : Mode} {todo : List Item} {s : St} {dst : Option Nat} {g g' : Nat} {args args' : List AV} {hin : List AO} {k : Site} (hr : AV.refsL args = []) (hp : AV.ptrsL args = [])
    (hc : callStep P mode todo s dst g args = .call g' args' hin k) : hin = [] ∧ k.tr = [] ∧ k.bor = [] ∧ k.s = s ∧ ∃ fn, P.funcs[g]? = some fn ∧ args' = canonArgs P fn.params.toList args ∧ g' = g := by
  rw [callStep_free hr hp] at hc
  cases hf : P.funcs[g]? with
  | none => rw [hf] at hc; cases hc
  | some fn =>
    rw [hf] at hc
    simp only [Step.call.injEq] at hc
    obtain ⟨rfl, rfl, rfl, rfl⟩ := hc
    exact ⟨rfl, rfl, rfl, rfl, fn, rfl, rfl, rfl⟩

theorem dstep_tm {i c : Nat} {o : Oper} {m : Mk} {s s' : St} (h : DStep P ops i o m c s s') (hc : c < 4) {t : Nat} (ht : o.dst ≠ some t) : s'.tm[t]? = s.tm[t]? := by
  cases h with
  | skip hg => exact put_tm_ne ht
  | op hg hcl he =>
    subst hcl
    rw [put_tm_ne ht, (op_leaves he hc).1]
  | call hg hcl he hr hp hcall hcon hcc =>
    obtain ⟨_, h1, h2, h3, _⟩ := dstep_free hr hp hcall
    rw [put_tm_ne ht, state_free h1 h2]
    dsimp only
    rw [h3]
  | full hg he hcall hcon => omega

theorem dstep_hp {i c : Nat} {o : Oper} {m : Mk} {s s' : St} (h : DStep P ops i o m c s s') (hc : c < 2) : s'.hp = s.hp ∧ s'.m = s.m := by
  cases h with
  | skip hg => exact ⟨put_hp, put_m⟩
  | op hg hcl he =>
    subst hcl
    have := (op_leaves he (by omega)).2.1 hc
    rw [put_hp, put_m, this]
    exact ⟨rfl, rfl⟩
  | call hg hcl he hr hp hcall hcon hcc =>
    rename_i r0 ho0
    obtain ⟨_, h1, h2, h3, _⟩ := dstep_free hr hp hcall
    rw [put_hp, put_m, state_free h1 h2]
    dsimp only
    have h0 : c = 0 := by
      have := callCls_cases r0 ho0
      omega
    obtain ⟨rfl, _⟩ := callCls_zero (hcc.trans h0)
    rw [h3]
    simp
  | full hg he hcall hcon => omega

/-- What does not write: it makes objects at most. -/
theorem dstep_ext {i c : Nat} {o : Oper} {m : Mk} {s s' : St} (h : DStep P ops i o m c s s') (hc : c < 3) : (∃ ext, s'.hp = s.hp ++ ext) ∧ s'.m = s.m := by
  cases h with
  | skip hg => exact ⟨⟨[], by rw [put_hp]; simp⟩, put_m⟩
  | op hg hcl he =>
    subst hcl
    have := (op_leaves he (by omega)).2.2 hc
    rw [put_hp, put_m]
    exact this
  | call hg hcl he hr hp hcall hcon hcc =>
    obtain ⟨_, h1, h2, h3, _⟩ := dstep_free hr hp hcall
    rw [put_hp, put_m, state_free h1 h2]
    dsimp only
    rw [h3]
    exact ⟨⟨_, rfl⟩, rfl⟩
  | full hg he hcall hcon => omega

theorem chain_tm (H : ∀ j, j < ops.size → Fact P ops st cl j) {t j : Nat} : ∀ i, j ≤ i → i ≤ ops.size → (∀ k, j ≤ k → k < i → ¬ Aff ops cl k t) → (st i).tm[t]? = (st j).tm[t]?
  | 0, h, _, _ => by obtain rfl : j = 0 := by omega
                     rfl
  | i + 1, h, hn, hno => by
    by_cases hji : j = i + 1
    · subst hji; rfl
    · rw [← chain_tm H i (by omega) (by omega) (fun k h1 h2 => hno k h1 (by omega))]
      obtain ⟨o, m, ho, hd, _⟩ := H i (by omega)
      have hna := hno i (by omega) (by omega)
      refine dstep_tm hd ?_ ?_
      · rcases Nat.lt_or_ge (cl i) 4 with h' | h'
        · exact h'
        · exact absurd (.inl h') hna
      · intro hdst
        exact hna (.inr (by unfold dstOf; rw [ho]; exact hdst))

theorem chain_hp (H : ∀ j, j < ops.size → Fact P ops st cl j) {j : Nat} : ∀ i, j ≤ i → i ≤ ops.size → (∀ k, j ≤ k → k < i → ¬ 2 ≤ cl k) → (st i).hp = (st j).hp ∧ (st i).m = (st j).m
  | 0, h, _, _ => by obtain rfl : j = 0 := by omega
                     exact ⟨rfl, rfl⟩
  | i + 1, h, hn, hno => by
    by_cases hji : j = i + 1
    · subst hji; exact ⟨rfl, rfl⟩
    · obtain ⟨h1, h2⟩ := chain_hp H i (by omega) (by omega) (fun k h1 h2 => hno k h1 (by omega))
      obtain ⟨o, m, ho, hd, _⟩ := H i (by omega)
      have hna := hno i (by omega) (by omega)
      obtain ⟨h3, h4⟩ := dstep_hp hd (by omega)
      exact ⟨h3.trans h1, h4.trans h2⟩

theorem agree_tm (H : ∀ j, j < ops.size → Fact P ops st cl j) {i t : Nat} {o : Oper} (hn : Next ops D i o) (inv : InvD ops st cl D S) (hord : ∀ k, k < ops.size → k ≠ i → Aff ops cl k t → Ordered ops k i) : S.tm[t]? = (st i).tm[t]? := by
  have hi := hn.lt
  obtain ⟨j, hj, hv, hno⟩ := lastver (fun k => Aff ops cl k t) i
  rw [chain_tm H i hj (by omega) hno]
  refine inv.tm t j (by omega) (hv.imp id ?_) ?_
  · rintro ⟨k, rfl, hk⟩
    exact ⟨k, rfl, hn.below (hord k (by omega) (by omega) hk) (by omega), hk⟩
  · intro k h1 h2 hd ha
    rcases Nat.lt_trichotomy k i with h | h | h
    · exact hno k h1 h ha
    · subst h; exact hn.fresh hd
    · exact hn.above (hord k h2 (by omega) ha) h hd

theorem agree_hp (H : ∀ j, j < ops.size → Fact P ops st cl j) {i : Nat} {o : Oper} (hn : Next ops D i o) (inv : InvD ops st cl D S) (hord : ∀ k, k < ops.size → k ≠ i → 2 ≤ cl k → Ordered ops k i) : S.hp = (st i).hp ∧ S.m = (st i).m := by
  have hi := hn.lt
  obtain ⟨j, hj, hv, hno⟩ := lastver (fun k => 2 ≤ cl k) i
  obtain ⟨e1, e2⟩ := chain_hp H i hj (by omega) hno
  rw [e1, e2]
  refine inv.hp j (by omega) (hv.imp id ?_) ?_
  · rintro ⟨k, rfl, hk⟩
    exact ⟨k, rfl, hn.below (hord k (by omega) (by omega) hk) (by omega), hk⟩
  · intro k h1 h2 hd
    rcases Nat.lt_trichotomy k i with h | h | h
    · have := hno k h1 h; omega
    · subst h; exact absurd hd hn.fresh
    · rcases Nat.lt_or_ge (cl k) 2 with h' | h'
      · exact h'
      · exact absurd hd (hn.above (hord k h2 (by omega) h') h)

theorem chain_ext (H : ∀ j, j < ops.size → Fact P ops st cl j) {j : Nat} : ∀ i, j ≤ i → i ≤ ops.size → (∀ k, j ≤ k → k < i → cl k < 3) → (∃ ext, (st i).hp = (st j).hp ++ ext) ∧ (st i).m = (st j).m
  | 0, h, _, _ => by obtain rfl : j = 0 := by omega
                     exact ⟨⟨[], by simp⟩, rfl⟩
  | i + 1, h, hn, hno => by
    by_cases hji : j = i + 1
    · subst hji; exact ⟨⟨[], by simp⟩, rfl⟩
    · obtain ⟨⟨e1, h1⟩, h2⟩ := chain_ext H i (by omega) (by omega) (fun k h1 h2 => hno k h1 (by omega))
      obtain ⟨o, m, ho, hd, _⟩ := H i (by omega)
      obtain ⟨⟨e3, h3⟩, h4⟩ := dstep_ext hd (hno i (by omega) (by omega))
      exact ⟨⟨e1 ++ e3, by rw [h3, h1, List.append_assoc]⟩, h4.trans h2⟩

/-- A reader finds what it looks at: at most there are more objects. -/
theorem agree_up (H : ∀ j, j < ops.size → Fact P ops st cl j) {i : Nat} {o : Oper} (hn : Next ops D i o) (inv : InvD ops st cl D S) (hc : cl i = 1) : (∃ ext, S.hp = (st i).hp ++ ext) ∧ S.m = (st i).m := by
  have hi := hn.lt
  obtain ⟨j, hj, hv, hno⟩ := lastver (fun k => D k ∧ 2 ≤ cl k) ops.size
  obtain ⟨e1, e2⟩ := inv.hp j hj (hv.imp id fun ⟨k, h1, h2, h3⟩ => ⟨k, h1, h2, h3⟩) (fun k h1 h2 hd => by
    have := hno k h1 h2
    rcases Nat.lt_or_ge (cl k) 2 with h' | h'
    · exact h'
    · exact absurd ⟨hd, h'⟩ this)
  rw [e1, e2]
  rcases Nat.lt_or_ge i j with hij | hij
  · obtain rfl | ⟨k0, rfl, hk0, hc0⟩ := hv
    · omega
    · have hne : k0 ≠ i := by rintro rfl; exact hn.fresh hk0
      refine chain_ext H (k0 + 1) (by omega) hj fun k h1 h2 => ?_
      rcases Nat.lt_or_ge (cl k) 3 with h' | h'
      · exact h'
      · exfalso
        have hki : k ≠ i := by rintro rfl; omega
        have hnd : ¬ D k := hn.above (confl_ordered H hi (by omega) (by unfold Confl; omega) (by unfold Confl; omega)) (by omega)
        by_cases hkk : k = k0
        · subst hkk; exact hnd hk0
        · obtain ⟨_, _, _, _, h3⟩ := H k0 (by omega)
          exact hnd (closed_before hn.closed k0 k hk0 (h3 k (by omega) (by unfold Confl; omega)))
  · obtain ⟨q1, q2⟩ := chain_hp H i hij (by omega) (fun k h1 h2 h3 => hno k h1 (by omega) ⟨ready_before hn.closed hn.ho hn.deps (by
      obtain ⟨_, _, _, _, h4⟩ := H i hi
      exact h4 k h2 (by unfold Confl; omega)), h3⟩)
    exact ⟨⟨[], by rw [q1]; simp⟩, q2.symm⟩

def Plus (D : Nat → Prop) (i : Nat) : Nat → Prop := fun k => D k ∨ k = i

theorem inv_soft (H : ∀ j, j < ops.size → Fact P ops st cl j) (hs : slotsOk ops = true) {i : Nat} {o : Oper} (hn : Next ops D i o) (inv : InvD ops st cl D S) (hc : cl i < 4) {S' : St}
    (h1 : ∀ t, o.dst ≠ some t → S'.tm[t]? = S.tm[t]?) (h2 : ∀ t, o.dst = some t → S'.tm[t]? = (st (i + 1)).tm[t]?) (h3 : cl i < 2 → S'.hp = S.hp ∧ S'.m = S.m) (h4 : 2 ≤ cl i → S'.hp = (st (i + 1)).hp ∧ S'.m = (st (i + 1)).m) :
    InvD ops st cl (Plus D i) S' where
  tm := fun t j hj hv hno => by
    have hi := hn.lt
    by_cases ha : Aff ops cl i t
    · have hdst : o.dst = some t := by
        rcases ha with ha | ha
        · omega
        · unfold dstOf at ha; rw [hn.ho] at ha; exact ha
      have hji : i < j := by
        rcases Nat.lt_or_ge i j with h | h
        · exact h
        · exact absurd ha (hno i h hi (.inr rfl))
      rcases hv with rfl | ⟨k, rfl, hk, hka⟩
      · omega
      · rcases hk with hk | rfl
        · exact absurd hk (hn.above (aff_ordered H hs hi (by omega) (by rintro rfl; exact hn.fresh hk) hn.ho (.inr hdst) hka) (by
            rcases Nat.lt_or_ge i k with h | h
            · exact h
            · obtain rfl : i = k := by omega
              exact absurd hk hn.fresh))
        · exact h2 t hdst
    · have hdst : o.dst ≠ some t := fun h => ha (.inr (by unfold dstOf; rw [hn.ho]; exact h))
      rw [h1 t hdst]
      refine inv.tm t j hj (hv.imp id ?_) (fun k hk1 hk2 hd => hno k hk1 hk2 (.inl hd))
      rintro ⟨k, rfl, hk, hka⟩
      rcases hk with hk | rfl
      · exact ⟨k, rfl, hk, hka⟩
      · exact absurd hka ha
  hp := fun j hj hv hno => by
    have hi := hn.lt
    by_cases ha : 2 ≤ cl i
    · have hji : i < j := by
        rcases Nat.lt_or_ge i j with h | h
        · exact h
        · have := hno i h hi (.inr rfl); omega
      rcases hv with rfl | ⟨k, rfl, hk, hka⟩
      · omega
      · rcases hk with hk | rfl
        · have hne : k ≠ i := by rintro rfl; exact hn.fresh hk
          exact absurd hk (hn.above (confl_ordered H hi (by omega) (by unfold Confl; omega) (by unfold Confl; omega)) (by omega))
        · exact h4 ha
    · obtain ⟨e1, e2⟩ := h3 (by omega)
      rw [e1, e2]
      refine inv.hp j hj (hv.imp id ?_) (fun k hk1 hk2 hd => hno k hk1 hk2 (.inl hd))
      rintro ⟨k, rfl, hk, hka⟩
      rcases hk with hk | rfl
      · exact ⟨k, rfl, hk, hka⟩
      · exact absurd hka ha

theorem full_ordered (H : ∀ j, j < ops.size → Fact P ops st cl j) {i k : Nat} (hi : i < ops.size) (hk : k < ops.size) (hc : 4 ≤ cl i) : Ordered ops k i :=
  confl_ordered H hi hk (.inr (.inl hc)) (.inl hc)

theorem inv_full (H : ∀ j, j < ops.size → Fact P ops st cl j) {i : Nat} {o : Oper} (hn : Next ops D i o) (hc : 4 ≤ cl i) : InvD ops st cl (Plus D i) (st (i + 1)) where
  tm := fun t j hj hv hno => by
    have hi := hn.lt
    have hji : i < j := by
      rcases Nat.lt_or_ge i j with h | h
      · exact h
      · exact absurd (.inl hc) (hno i h hi (.inr rfl))
    rcases hv with rfl | ⟨k, rfl, hk, hka⟩
    · omega
    · rcases hk with hk | rfl
      · have hne : k ≠ i := by rintro rfl; exact hn.fresh hk
        exact absurd hk (hn.above (full_ordered H hi (by omega) hc) (by omega))
      · rfl
  hp := fun j hj hv hno => by
    have hi := hn.lt
    have hji : i < j := by
      rcases Nat.lt_or_ge i j with h | h
      · exact h
      · have := hno i h hi (.inr rfl); omega
    rcases hv with rfl | ⟨k, rfl, hk, hka⟩
    · omega
    · rcases hk with hk | rfl
      · have hne : k ≠ i := by rintro rfl; exact hn.fresh hk
        exact absurd hk (hn.above (full_ordered H hi (by omega) hc) (by omega))
      · exact ⟨rfl, rfl⟩

end
end Go.Cellar
