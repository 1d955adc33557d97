/- Regions that draw their order may be taken in the order of the text. No condition. -/
import Derived.Test.YtjdjmbogopadaaaGreatDoorAbs19t
set_option linter.unusedVariables false
set_option linter.unusedSimpArgs false
namespace Go.Cellar
open Go

theorem slots_order {ops : Array Oper} (hs : slotsOk ops = true) {i j : Nat} (hij : i < j) {a b : Oper} (ha : ops[i]? = some a) (hb : ops[j]? = some b) (hn : (befB ops j).testBit i = false) : Oper.apart ops a b = true := by
  unfold slotsOk at hs
  rw [List.all_eq_true] at hs
  have hj : j < ops.size := (Array.getElem?_eq_some_iff.1 hb).1
  have h1 := hs j (List.mem_range.mpr hj)
  rw [List.all_eq_true] at h1
  have h2 := h1 i (List.mem_range.mpr hij)
  rw [ha, hb] at h2
  simp only [Bool.or_eq_true] at h2
  rcases h2 with h2 | h2
  · exact h2
  · unfold befB at hn; rw [hn] at h2; cases h2

section
variable {P : Program} {f : Nat} {res : AV} {hout : List AO} {ops : Array Oper} {st : Nat → St} {cl : Nat → Nat} {fp : Nat → List Nat} {D : Nat → Prop} {S : St}

/-- k and i stand in order, whichever way. -/
def Ordered (ops : Array Oper) (k i : Nat) : Prop := (k < i → (befB ops i).testBit k = true) ∧ (i < k → (befB ops k).testBit i = true)

theorem confl_ordered (H : ∀ j, j < ops.size → Fact P ops st cl fp j) {i k : Nat} (hi : i < ops.size) (hk : k < ops.size) (h1 : Confl (cl k) (fp k) (st k).hp.length (cl i) (fp i)) (h2 : Confl (cl i) (fp i) (st i).hp.length (cl k) (fp k)) : Ordered ops k i := by
  refine ⟨fun h => ?_, fun h => ?_⟩
  · obtain ⟨_, _, _, _, _, h3⟩ := H i hi; exact h3 k h h1
  · obtain ⟨_, _, _, _, _, h3⟩ := H k hk; exact h3 i h h2

theorem aff_ordered (H : ∀ j, j < ops.size → Fact P ops st cl fp j) (hs : slotsOk ops = true) {i k t : Nat} {o : Oper} (hi : i < ops.size) (hk : k < ops.size) (hne : k ≠ i) (ho : ops[i]? = some o)
    (ht : t ∈ o.looksAt ops ∨ o.dst = some t) (ha : Aff ops cl k t) : Ordered ops k i := by
  rcases ha with ha | ha
  · exact confl_ordered H hi hk (.inl ha) (.inr (.inl ha))
  · unfold dstOf at ha
    cases hok : ops[k]? with
    | none => rw [hok] at ha; cases ha
    | some ok =>
      rw [hok] at ha
      simp only [Option.bind_some] at ha
      refine ⟨fun h => ?_, fun h => ?_⟩
      · cases hb : (befB ops i).testBit k with
        | true => rfl
        | false =>
          obtain ⟨h1, h2, h3⟩ := Oper.apart_spec (slots_order hs h hok ho hb)
          rcases ht with ht | ht
          · exact absurd ht (h1 t ha)
          · exact absurd ht (h2 t ha)
      · cases hb : (befB ops k).testBit i with
        | true => rfl
        | false =>
          obtain ⟨h1, h2, h3⟩ := Oper.apart_spec (slots_order hs h ho hok hb)
          rcases ht with ht | ht
          · exact absurd ht (h3 t ha)
          · exact absurd ha (h2 t ht)

/-- An operation that is about to run. -/
structure Next (ops : Array Oper) (D : Nat → Prop) (i : Nat) (o : Oper) : Prop where
  ho : ops[i]? = some o
  closed : Closed ops D
  fresh : ¬ D i
  deps : ∀ e ∈ o.after, Region.binds .any e = true → D e.on

theorem Next.lt {i : Nat} {o : Oper} (h : Next ops D i o) : i < ops.size := (Array.getElem?_eq_some_iff.1 h.ho).1

theorem Next.below {i k : Nat} {o : Oper} (h : Next ops D i o) (ho : Ordered ops k i) (hk : k < i) : D k := ready_before h.closed h.ho h.deps (ho.1 hk)
theorem Next.above {i k : Nat} {o : Oper} (h : Next ops D i o) (ho : Ordered ops k i) (hk : i < k) : ¬ D k := fun hd => h.fresh (closed_before h.closed k i hd (ho.2 hk))

theorem callCls_cases (res : AV) (hout : List AO) : callCls res hout = 0 ∨ callCls res hout = 2 := by
  unfold callCls; split
  · exact .inl rfl
  · exact .inr rfl

theorem dstep_free {mode : Mode} {todo : List Item} {s : St} {dst : Option Nat} {g g' : Nat} {args args' : List AV} {hin : List AO} {k : Site} (hr : AV.refsL args = []) (hp : AV.ptrsL args = [])
    (hc : callStep P mode todo s dst g args = .call g' args' hin k) : hin = [] ∧ k.tr = [] ∧ k.bor = [] ∧ k.s = s ∧ ∃ fn, P.funcs[g]? = some fn ∧ args' = canonArgs P fn.params.toList args ∧ g' = g := by
  rw [callStep_free hr hp] at hc
  cases hf : P.funcs[g]? with
  | none => rw [hf] at hc; cases hc
  | some fn =>
    rw [hf] at hc
    simp only [Step.call.injEq] at hc
    obtain ⟨rfl, rfl, rfl, rfl⟩ := hc
    exact ⟨rfl, rfl, rfl, rfl, fn, rfl, rfl, rfl⟩

theorem callStep_s {mode : Mode} {todo : List Item} {s : St} {dst : Option Nat} {g g' : Nat} {args args' : List AV} {hin : List AO} {k : Site} (hc : callStep P mode todo s dst g args = .call g' args' hin k) : k.s = s := by
  unfold callStep at hc
  split at hc
  · cases hc
  · dsimp only at hc
    split at hc
    · cases hc
    · simp only [Step.call.injEq] at hc
      obtain ⟨_, _, _, rfl⟩ := hc
      rfl

theorem dstep_tm {i c : Nat} {f0 : List Nat} {o : Oper} {m : Mk} {s s' : St} (h : DStep P ops i o m c f0 s s') (hc : c < 4) {t : Nat} (ht : o.dst ≠ some t) : s'.tm[t]? = s.tm[t]? := by
  cases h with
  | skip hg => exact put_tm_ne ht
  | op hg hcl he =>
    subst hcl
    rw [put_tm_ne ht, (op_leaves he hc).1]
  | call hg hcl he hr hp hcall hcon hcc =>
    obtain ⟨_, h1, h2, h3, _⟩ := dstep_free hr hp hcall
    rw [put_tm_ne ht, state_free h1 h2]
    dsimp only
    rw [h3]
  | borrow hg hcl he hcall htr hcon hlf =>
    rw [put_tm_ne ht, state_lent htr hlf]
    dsimp only
    rw [callStep_s hcall]
  | write hg hcl he hcall hw hcon =>
    have hks := callStep_s hcall
    rw [put_tm_ne ht, write_state (by rw [hks]; exact hw)]
    dsimp only
    rw [hks]
  | full hg he hcall hcon => omega

theorem dstep_hp {i c : Nat} {f0 : List Nat} {o : Oper} {m : Mk} {s s' : St} (h : DStep P ops i o m c f0 s s') (hc : c < 2) : s'.hp = s.hp ∧ s'.m = s.m := by
  cases h with
  | skip hg => exact ⟨put_hp, put_m⟩
  | op hg hcl he =>
    subst hcl
    have := (op_leaves he (by omega)).2.1 hc
    rw [put_hp, put_m, this]
    exact ⟨rfl, rfl⟩
  | call hg hcl he hr hp hcall hcon hcc =>
    rename_i r0 ho0
    obtain ⟨_, h1, h2, h3, _⟩ := dstep_free hr hp hcall
    rw [put_hp, put_m, state_free h1 h2]
    dsimp only
    have h0 : c = 0 := by
      have := callCls_cases r0 ho0
      omega
    obtain ⟨rfl, _⟩ := callCls_zero (hcc.trans h0)
    rw [h3]
    simp
  | borrow hg hcl he hcall htr hcon hlf => omega
  | write hg hcl he hcall hw hcon => omega
  | full hg he hcall hcon => omega

/-- What does not touch all leaves the objects that it does not write. -/
theorem dstep_at {i c : Nat} {f0 : List Nat} {o : Oper} {m : Mk} {s s' : St} (h : DStep P ops i o m c f0 s s') (hc : c < 4) : s.hp.length ≤ s'.hp.length ∧ ∀ r, r < s.hp.length → (c = 3 → r ∉ f0) → s'.hp[r]? = s.hp[r]? := by
  cases h with
  | skip hg => exact ⟨by rw [put_hp]; exact Nat.le_refl _, fun r _ _ => by rw [put_hp]⟩
  | op hg hcl he =>
    subst hcl
    rcases Nat.lt_or_ge (cls s o.op) 3 with h3 | h3
    · obtain ⟨⟨ext, h1⟩, _⟩ := (op_leaves he (by omega)).2.2 h3
      rw [put_hp, h1]
      exact ⟨by simp, fun r hr _ => List.getElem?_append_left hr⟩
    · have h3' : cls s o.op = 3 := by omega
      obtain ⟨h1, h2⟩ := op_writes he h3'
      rw [put_hp]
      exact ⟨by omega, fun r _ hn => h2 r (by have := hn h3'; rwa [h3'] at this)⟩
  | call hg hcl he hr hp hcall hcon hcc =>
    obtain ⟨_, h1, h2, h3, _⟩ := dstep_free hr hp hcall
    rw [put_hp, state_free h1 h2]
    dsimp only
    rw [h3]
    exact ⟨by simp, fun r hr _ => List.getElem?_append_left hr⟩
  | borrow hg hcl he hcall htr hcon hlf =>
    rw [put_hp, state_lent htr hlf]
    dsimp only
    rw [callStep_s hcall]
    exact ⟨by simp, fun r hr _ => List.getElem?_append_left hr⟩
  | write hg hcl he hcall hw hcon =>
    have hks := callStep_s hcall
    rw [put_hp, write_state (by rw [hks]; exact hw)]
    dsimp only
    rw [hks]
    exact ⟨wroteTo_at.1, fun r hr hn => wroteTo_at.2 r hr (hn rfl)⟩
  | full hg he hcall hcon => omega

theorem chain_tm (H : ∀ j, j < ops.size → Fact P ops st cl fp j) {t j : Nat} : ∀ i, j ≤ i → i ≤ ops.size → (∀ k, j ≤ k → k < i → ¬ Aff ops cl k t) → (st i).tm[t]? = (st j).tm[t]?
  | 0, h, _, _ => by obtain rfl : j = 0 := by omega
                     rfl
  | i + 1, h, hn, hno => by
    by_cases hji : j = i + 1
    · subst hji; rfl
    · rw [← chain_tm H i (by omega) (by omega) (fun k h1 h2 => hno k h1 (by omega))]
      obtain ⟨o, m, ho, hd, _, _⟩ := H i (by omega)
      have hna := hno i (by omega) (by omega)
      refine dstep_tm hd ?_ ?_
      · rcases Nat.lt_or_ge (cl i) 4 with h' | h'
        · exact h'
        · exact absurd (.inl h') hna
      · intro hdst
        exact hna (.inr (by unfold dstOf; rw [ho]; exact hdst))

theorem chain_hp (H : ∀ j, j < ops.size → Fact P ops st cl fp j) {j : Nat} : ∀ i, j ≤ i → i ≤ ops.size → (∀ k, j ≤ k → k < i → ¬ 2 ≤ cl k) → (st i).hp = (st j).hp ∧ (st i).m = (st j).m
  | 0, h, _, _ => by obtain rfl : j = 0 := by omega
                     exact ⟨rfl, rfl⟩
  | i + 1, h, hn, hno => by
    by_cases hji : j = i + 1
    · subst hji; exact ⟨rfl, rfl⟩
    · obtain ⟨h1, h2⟩ := chain_hp H i (by omega) (by omega) (fun k h1 h2 => hno k h1 (by omega))
      obtain ⟨o, m, ho, hd, _, _⟩ := H i (by omega)
      have hna := hno i (by omega) (by omega)
      obtain ⟨h3, h4⟩ := dstep_hp hd (by omega)
      exact ⟨h3.trans h1, h4.trans h2⟩

theorem agree_tm (H : ∀ j, j < ops.size → Fact P ops st cl fp j) {i t : Nat} {o : Oper} (hn : Next ops D i o) (inv : InvD ops st cl D S) (hord : ∀ k, k < ops.size → k ≠ i → Aff ops cl k t → Ordered ops k i) : S.tm[t]? = (st i).tm[t]? := by
  have hi := hn.lt
  obtain ⟨j, hj, hv, hno⟩ := lastver (fun k => Aff ops cl k t) i
  rw [chain_tm H i hj (by omega) hno]
  refine inv.tm t j (by omega) (hv.imp id ?_) ?_
  · rintro ⟨k, rfl, hk⟩
    exact ⟨k, rfl, hn.below (hord k (by omega) (by omega) hk) (by omega), hk⟩
  · intro k h1 h2 hd ha
    rcases Nat.lt_trichotomy k i with h | h | h
    · exact hno k h1 h ha
    · subst h; exact hn.fresh hd
    · exact hn.above (hord k h2 (by omega) ha) h hd

theorem agree_hp (H : ∀ j, j < ops.size → Fact P ops st cl fp j) {i : Nat} {o : Oper} (hn : Next ops D i o) (inv : InvD ops st cl D S) (hord : ∀ k, k < ops.size → k ≠ i → 2 ≤ cl k → Ordered ops k i) : S.hp = (st i).hp ∧ S.m = (st i).m := by
  have hi := hn.lt
  obtain ⟨j, hj, hv, hno⟩ := lastver (fun k => 2 ≤ cl k) i
  obtain ⟨e1, e2⟩ := chain_hp H i hj (by omega) hno
  rw [e1, e2]
  refine inv.hp j (by omega) (hv.imp id ?_) ?_
  · rintro ⟨k, rfl, hk⟩
    exact ⟨k, rfl, hn.below (hord k (by omega) (by omega) hk) (by omega), hk⟩
  · intro k h1 h2 hd
    rcases Nat.lt_trichotomy k i with h | h | h
    · have := hno k h1 h; omega
    · subst h; exact absurd hd hn.fresh
    · rcases Nat.lt_or_ge (cl k) 2 with h' | h'
      · exact h'
      · exact absurd hd (hn.above (hord k h2 (by omega) h') h)

theorem chain_at (H : ∀ j, j < ops.size → Fact P ops st cl fp j) {j r : Nat} : ∀ i, j ≤ i → i ≤ ops.size → r < (st j).hp.length → (∀ k, j ≤ k → k < i → cl k < 4 ∧ (cl k = 3 → r ∉ fp k)) → r < (st i).hp.length ∧ (st i).hp[r]? = (st j).hp[r]?
  | 0, h, _, hr, _ => by obtain rfl : j = 0 := by omega
                         exact ⟨hr, rfl⟩
  | i + 1, h, hn, hr, hno => by
    by_cases hji : j = i + 1
    · subst hji; exact ⟨hr, rfl⟩
    · obtain ⟨h1, h2⟩ := chain_at H i (by omega) (by omega) hr (fun k h1 h2 => hno k h1 (by omega))
      obtain ⟨o, m, ho, hd, _, _⟩ := H i (by omega)
      obtain ⟨h5, h6⟩ := hno i (by omega) (by omega)
      obtain ⟨h3, h4⟩ := dstep_at hd h5
      exact ⟨by omega, (h4 r h1 h6).trans h2⟩

/-- A chain that comes to a reader: what it reads was there. -/
theorem chain_back (H : ∀ j, j < ops.size → Fact P ops st cl fp j) {j r : Nat} : ∀ i, j ≤ i → i ≤ ops.size → r < (st i).hp.length → (∀ k, j ≤ k → k < i → cl k < 2 ∨ (cl k < 4 ∧ (cl k = 3 → r ∉ fp k) ∧ r < (st k).hp.length)) → (st i).hp[r]? = (st j).hp[r]?
  | 0, h, _, _, _ => by obtain rfl : j = 0 := by omega
                        rfl
  | i + 1, h, hn, hr, hno => by
    by_cases hji : j = i + 1
    · subst hji; rfl
    · obtain ⟨o, m, ho, hd, _, _⟩ := H i (by omega)
      have hi := hno i (by omega) (by omega)
      have h0 : r < (st i).hp.length ∧ (st (i + 1)).hp[r]? = (st i).hp[r]? := by
        rcases hi with hi | ⟨h3, h4, h5⟩
        · obtain ⟨h6, _⟩ := dstep_hp hd hi
          rw [h6] at hr ⊢
          exact ⟨hr, rfl⟩
        · exact ⟨h5, (dstep_at hd h3).2 r h5 h4⟩
      rw [h0.2]
      exact chain_back H i (by omega) (by omega) h0.1 (fun k h1 h2 => hno k h1 (by omega))

/-- A reader finds what it looks at. -/
theorem agree_at (H : ∀ j, j < ops.size → Fact P ops st cl fp j) {i : Nat} {o : Oper} (hn : Next ops D i o) (inv : InvD ops st cl D S) (hc : cl i = 1) : ∀ r ∈ fp i, S.hp[r]? = (st i).hp[r]? := by
  intro r hr
  have hi := hn.lt
  have hrl : r < (st i).hp.length := by
    obtain ⟨_, _, _, _, h3, _⟩ := H i hi
    exact h3 hc r hr
  obtain ⟨j, hj, hv, hno⟩ := lastver (fun k => D k ∧ 2 ≤ cl k) ops.size
  obtain ⟨e1, e2⟩ := inv.hp j hj (hv.imp id fun ⟨k, h1, h2, h3⟩ => ⟨k, h1, h2, h3⟩) (fun k h1 h2 hd => by
    have := hno k h1 h2
    rcases Nat.lt_or_ge (cl k) 2 with h' | h'
    · exact h'
    · exact absurd ⟨hd, h'⟩ this)
  rw [e1]
  rcases Nat.lt_or_ge i j with hij | hij
  · obtain rfl | ⟨k0, rfl, hk0, hc0⟩ := hv
    · omega
    · have hne : k0 ≠ i := by rintro rfl; exact hn.fresh hk0
      refine (chain_at H (k0 + 1) (by omega) hj hrl fun k h1 h2 => ?_).2
      -- each that touches objects is of D
      have hD : 2 ≤ cl k → D k := by
        intro h2c
        by_cases hkk : k = k0
        · subst hkk; exact hk0
        · obtain ⟨_, _, _, _, _, h3⟩ := H k0 (by omega)
          exact closed_before hn.closed k0 k hk0 (h3 k (by omega) (by unfold Confl; omega))
      have hki : 2 ≤ cl k → k ≠ i := by rintro h2c rfl; omega
      constructor
      · rcases Nat.lt_or_ge (cl k) 4 with h' | h'
        · exact h'
        · exact absurd (hD (by omega)) (hn.above (confl_ordered H hi (by omega) (.inl h') (.inr (.inl h'))) (by have := hki (by omega); omega))
      · intro h3c hrk
        refine absurd (hD (by omega)) (fun hd => hn.fresh (closed_before hn.closed k i hd ?_))
        obtain ⟨_, _, _, _, _, h3⟩ := H k (by omega)
        refine h3 i (by have := hki (by omega); omega) ?_
        unfold Confl
        exact .inr (.inr (.inr (.inr (.inr ⟨hc, h3c, fun hq => hq r hr hrk⟩))))
  · refine (chain_back H i hij (by omega) hrl fun k h1 h2 => ?_).symm
    rcases Nat.lt_or_ge (cl k) 2 with h' | h'
    · exact .inl h'
    · right
      have hnD : ¬ D k := fun hd => hno k h1 (by omega) ⟨hd, h'⟩
      have hnb : ¬ (befB ops i).testBit k = true := fun hb => hnD (ready_before hn.closed hn.ho hn.deps hb)
      obtain ⟨_, _, _, _, _, h3⟩ := H i hi
      have hnc : ¬ Confl (cl k) (fp k) (st k).hp.length (cl i) (fp i) := fun hq => hnb (h3 k h2 hq)
      unfold Confl at hnc
      have h4c : cl k < 4 := by
        rcases Nat.lt_or_ge (cl k) 4 with h | h
        · exact h
        · exact absurd (.inl h) hnc
      rcases (show cl k = 2 ∨ cl k = 3 by omega) with h2c | h3c
      · have hall : ∀ r ∈ fp i, r < (st k).hp.length := Classical.byContradiction fun hq => hnc (.inr (.inr (.inl ⟨h2c, .inr ⟨hc, hq⟩⟩)))
        exact ⟨h4c, fun h => by omega, hall r hr⟩
      · have hall : ∀ r ∈ fp i, r ∉ fp k ∧ r < (st k).hp.length := Classical.byContradiction fun hq => hnc (.inr (.inr (.inr (.inr (.inl ⟨h3c, hc, hq⟩)))))
        exact ⟨h4c, fun _ => (hall r hr).1, (hall r hr).2⟩

def Plus (D : Nat → Prop) (i : Nat) : Nat → Prop := fun k => D k ∨ k = i

theorem inv_soft (H : ∀ j, j < ops.size → Fact P ops st cl fp j) (hs : slotsOk ops = true) {i : Nat} {o : Oper} (hn : Next ops D i o) (inv : InvD ops st cl D S) (hc : cl i < 4) {S' : St}
    (h1 : ∀ t, o.dst ≠ some t → S'.tm[t]? = S.tm[t]?) (h2 : ∀ t, o.dst = some t → S'.tm[t]? = (st (i + 1)).tm[t]?) (h3 : cl i < 2 → S'.hp = S.hp ∧ S'.m = S.m) (h4 : 2 ≤ cl i → S'.hp = (st (i + 1)).hp ∧ S'.m = (st (i + 1)).m) :
    InvD ops st cl (Plus D i) S' where
  tm := fun t j hj hv hno => by
    have hi := hn.lt
    by_cases ha : Aff ops cl i t
    · have hdst : o.dst = some t := by
        rcases ha with ha | ha
        · omega
        · unfold dstOf at ha; rw [hn.ho] at ha; exact ha
      have hji : i < j := by
        rcases Nat.lt_or_ge i j with h | h
        · exact h
        · exact absurd ha (hno i h hi (.inr rfl))
      rcases hv with rfl | ⟨k, rfl, hk, hka⟩
      · omega
      · rcases hk with hk | rfl
        · exact absurd hk (hn.above (aff_ordered H hs hi (by omega) (by rintro rfl; exact hn.fresh hk) hn.ho (.inr hdst) hka) (by
            rcases Nat.lt_or_ge i k with h | h
            · exact h
            · obtain rfl : i = k := by omega
              exact absurd hk hn.fresh))
        · exact h2 t hdst
    · have hdst : o.dst ≠ some t := fun h => ha (.inr (by unfold dstOf; rw [hn.ho]; exact h))
      rw [h1 t hdst]
      refine inv.tm t j hj (hv.imp id ?_) (fun k hk1 hk2 hd => hno k hk1 hk2 (.inl hd))
      rintro ⟨k, rfl, hk, hka⟩
      rcases hk with hk | rfl
      · exact ⟨k, rfl, hk, hka⟩
      · exact absurd hka ha
  hp := fun j hj hv hno => by
    have hi := hn.lt
    by_cases ha : 2 ≤ cl i
    · have hji : i < j := by
        rcases Nat.lt_or_ge i j with h | h
        · exact h
        · have := hno i h hi (.inr rfl); omega
      rcases hv with rfl | ⟨k, rfl, hk, hka⟩
      · omega
      · rcases hk with hk | rfl
        · have hne : k ≠ i := by rintro rfl; exact hn.fresh hk
          exact absurd hk (hn.above (confl_ordered H hi (by omega) (by unfold Confl; omega) (by unfold Confl; omega)) (by omega))
        · exact h4 ha
    · obtain ⟨e1, e2⟩ := h3 (by omega)
      rw [e1, e2]
      refine inv.hp j hj (hv.imp id ?_) (fun k hk1 hk2 hd => hno k hk1 hk2 (.inl hd))
      rintro ⟨k, rfl, hk, hka⟩
      rcases hk with hk | rfl
      · exact ⟨k, rfl, hk, hka⟩
      · exact absurd hka ha

theorem full_ordered (H : ∀ j, j < ops.size → Fact P ops st cl fp j) {i k : Nat} (hi : i < ops.size) (hk : k < ops.size) (hc : 4 ≤ cl i) : Ordered ops k i :=
  confl_ordered H hi hk (.inr (.inl hc)) (.inl hc)

theorem inv_full (H : ∀ j, j < ops.size → Fact P ops st cl fp j) {i : Nat} {o : Oper} (hn : Next ops D i o) (hc : 4 ≤ cl i) : InvD ops st cl (Plus D i) (st (i + 1)) where
  tm := fun t j hj hv hno => by
    have hi := hn.lt
    have hji : i < j := by
      rcases Nat.lt_or_ge i j with h | h
      · exact h
      · exact absurd (.inl hc) (hno i h hi (.inr rfl))
    rcases hv with rfl | ⟨k, rfl, hk, hka⟩
    · omega
    · rcases hk with hk | rfl
      · have hne : k ≠ i := by rintro rfl; exact hn.fresh hk
        exact absurd hk (hn.above (full_ordered H hi (by omega) hc) (by omega))
      · rfl
  hp := fun j hj hv hno => by
    have hi := hn.lt
    have hji : i < j := by
      rcases Nat.lt_or_ge i j with h | h
      · exact h
      · have := hno i h hi (.inr rfl); omega
    rcases hv with rfl | ⟨k, rfl, hk, hka⟩
    · omega
    · rcases hk with hk | rfl
      · have hne : k ≠ i := by rintro rfl; exact hn.fresh hk
        exact absurd hk (hn.above (full_ordered H hi (by omega) hc) (by omega))
      · exact ⟨rfl, rfl⟩

end
end Go.Cellar
