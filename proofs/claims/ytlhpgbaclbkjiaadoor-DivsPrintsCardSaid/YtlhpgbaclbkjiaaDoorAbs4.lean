/- The invariant between the abstract state and the machine's memory, and how each kind of change keeps it. No condition. -/
import Derived.Test.YtlhpgbaclbkjiaaDoorAbs3
import Derived.Laws.CopyRow
namespace Go.Cellar
open Go

def AO.fixed : AO → Bool
  | .box _ => true
  | .arr _ _ => true
  | _ => false

/-- What a call began with. -/
structure Inp where
  w0 : World
  ok0 : Nat → Prop
  bl0 : List (Option Nat)
  hin : List AO

def Inp.ok (I : Inp) (bl : List (Option Nat)) (b : Nat) : Prop := (I.ok0 b ∨ some b ∈ I.bl0 ∨ I.w0.heap.size ≤ b) ∧ some b ∉ bl

def Inp.env (I : Inp) (w : World) (bl : List (Option Nat)) (hp : List AO) : Env := ⟨w, I.ok bl, bl, hp⟩

def ORep (E : Env) (b : Option Nat) : AO → Prop
  | .dead => True
  | .box cs => ∃ k vs e, b = some k ∧ E.w.heap[k]? = some (.cells vs e (0, 0)) ∧ RepL E cs vs.toList
  | .row t l => (b = none ∧ l = []) ∨ ∃ k vs e, b = some k ∧ E.w.heap[k]? = some (.cells vs e (0, 0)) ∧ RowIs E.w E.ok t l vs.toList
  | .arr t l => ∃ k vs e, b = some k ∧ E.w.heap[k]? = some (.cells vs e (0, 0)) ∧ RowIs E.w E.ok t l vs.toList

structure HSim (I : Inp) (w : World) (bl : List (Option Nat)) (hp : List AO) : Prop where
  len : bl.length = hp.length
  many : I.hin.length ≤ hp.length
  inj : ∀ (r r' b : Nat), bl[r]? = some (some b) → bl[r']? = some (some b) → r = r'
  at_ : ∀ (r b : Nat), bl[r]? = some (some b) → b < w.heap.size ∧ (some b ∈ I.bl0 ∨ I.w0.heap.size ≤ b)
  obj : ∀ (r : Nat) (o : AO), hp[r]? = some o → ORep (I.env w bl hp) (bl[r]?.join) o
  le : I.w0.heap.size ≤ w.heap.size
  old : ∀ b, b < I.w0.heap.size → some b ∉ I.bl0 → w.heap[b]? = I.w0.heap[b]?
  os : w.os = I.w0.os
  tape : w.tape = I.w0.tape
  output : w.output = I.w0.output
  pin : ∀ (j : Nat) (o : AO), I.hin[j]? = some o → o.fixed = true → bl[j]? = I.bl0[j]? ∧ ∃ o1, hp[j]? = some o1 ∧ o1.fixed = true

structure Sim (I : Inp) (w : World) (bl : List (Option Nat)) (s : St) (tmps : List Value) : Prop where
  h : HSim I w bl s.hp
  tm : RepL (I.env w bl s.hp) s.tm tmps
  m : s.m = I.hin.length

theorem ORep.sub {E E' : Env} {g : AV → AV} (hg : SubOk E E' g) {b : Option Nat} {o : AO} (h : ORep E b o) (hb : ∀ k, b = some k → E'.w.heap[k]? = E.w.heap[k]?) : ORep E' b (o.sub g) := by
  cases o with
  | dead => simp [AO.sub, ORep]
  | box cs =>
    obtain ⟨k, vs, e, rfl, h1, h2⟩ := h
    exact ⟨k, vs, e, rfl, by rw [hb k rfl]; exact h1, RepL.sub hg cs _ h2⟩
  | row t l =>
    rcases h with h | ⟨k, vs, e, rfl, h1, h2⟩
    · exact .inl h
    · exact .inr ⟨k, vs, e, rfl, by rw [hb k rfl]; exact h1, h2.mono hg.ok⟩
  | arr t l =>
    obtain ⟨k, vs, e, rfl, h1, h2⟩ := h
    exact ⟨k, vs, e, rfl, by rw [hb k rfl]; exact h1, h2.mono hg.ok⟩

theorem Inp.ok_not (I : Inp) {bl : List (Option Nat)} {r b : Nat} (h : bl[r]? = some (some b)) : ¬ I.ok bl b :=
  fun hk => hk.2 (List.mem_of_getElem? h)

theorem mem_bl {bl : List (Option Nat)} {b : Nat} (h : some b ∈ bl) : ∃ r : Nat, bl[r]? = some (some b) := List.mem_iff_getElem?.mp h

/-- A new block with its object. -/
theorem HSim.ext {I : Inp} {w w' : World} {bl bl' : List (Option Nat)} {hp hp' : List AO} (h : HSim I w bl hp) {g : AV → AV} (hg : SubOk (I.env w bl hp) (I.env w' bl' hp') g)
    (hlen : bl'.length = hp'.length) (hmany : hp.length ≤ hp'.length)
    (hinj : ∀ (r r' b : Nat), bl'[r]? = some (some b) → bl'[r']? = some (some b) → r = r')
    (hat : ∀ (r b : Nat), bl'[r]? = some (some b) → b < w'.heap.size ∧ (some b ∈ I.bl0 ∨ I.w0.heap.size ≤ b))
    (hobj : ∀ (r : Nat) (o : AO), hp'[r]? = some o → ORep (I.env w' bl' hp') (bl'[r]?.join) o ∨
      ∃ (r0 : Nat) (o0 : AO), hp[r0]? = some o0 ∧ o = o0.sub g ∧ bl'[r]?.join = bl[r0]?.join ∧ ∀ k, bl[r0]?.join = some k → w'.heap[k]? = w.heap[k]?)
    (hle : w.heap.size ≤ w'.heap.size)
    (hold : ∀ b, b < I.w0.heap.size → some b ∉ I.bl0 → w'.heap[b]? = w.heap[b]?)
    (hos : w'.os = w.os) (ht : w'.tape = w.tape) (ho : w'.output = w.output)
    (hpin : ∀ (j : Nat) (o o1 : AO), I.hin[j]? = some o → o.fixed = true → hp[j]? = some o1 → o1.fixed = true → bl'[j]? = bl[j]? ∧ ∃ o2, hp'[j]? = some o2 ∧ o2.fixed = true) : HSim I w' bl' hp' where
  len := hlen
  many := Nat.le_trans h.many hmany
  inj := hinj
  at_ := hat
  obj := by
    intro r o hr
    rcases hobj r o hr with h1 | ⟨r0, o0, h1, rfl, h3, h4⟩
    · exact h1
    · rw [h3]; exact (h.obj r0 o0 h1).sub hg h4
  le := Nat.le_trans h.le hle
  old := fun b hb hn => (hold b hb hn).trans (h.old b hb hn)
  os := hos.trans h.os
  tape := ht.trans h.tape
  output := ho.trans h.output
  pin := fun j o h1 h2 => by
    obtain ⟨h3, o1, h4, h5⟩ := h.pin j o h1 h2
    obtain ⟨h6, h7⟩ := hpin j o o1 h1 h2 h4 h5
    exact ⟨h6.trans h3, h7⟩

theorem getElem?_append_some {α : Type} {l : List α} {x y : α} {r : Nat} (h : (l ++ [x])[r]? = some y) : l[r]? = some y ∨ (r = l.length ∧ y = x) := by
  rw [List.getElem?_append] at h
  split at h
  · exact .inl h
  · rename_i hn
    have : r - l.length = 0 := by
      cases hq : r - l.length with
      | zero => rfl
      | succ n => rw [hq] at h; simp at h
    rw [this] at h
    simp at h
    exact .inr ⟨by omega, h.symm⟩

theorem rowShape_append {hp : List AO} {o : AO} {r : Nat} {x : Nat × Nat} (h : rowShape hp r = some x) : rowShape (hp ++ [o]) r = some x := by
  unfold rowShape at h ⊢
  cases hr : hp[r]? with
  | none => simp [hr] at h
  | some q =>
    have hlt : r < hp.length := (List.getElem?_eq_some_iff.mp hr).1
    rw [List.getElem?_append_left hlt, hr]
    simpa [hr] using h

theorem heap_alloc_lt {w : World} {o : Obj} {b : Nat} (h : b < w.heap.size) : (w.alloc o).heap[b]? = w.heap[b]? := by
  show (w.heap.push o)[b]? = _
  rw [Array.getElem?_push, if_neg (by omega)]

theorem heap_alloc_new {w : World} {o : Obj} : (w.alloc o).heap[w.heap.size]? = some o := by
  show (w.heap.push o)[w.heap.size]? = some o
  rw [Array.getElem?_push, if_pos rfl]

/-- The heap grows by one block, which a new object names. -/
theorem HSim.alloc {I : Inp} {w : World} {bl : List (Option Nat)} {hp : List AO} (h : HSim I w bl hp) (c : Obj) (o : AO)
    (ho : EnvLe (I.env w bl hp) (I.env (w.alloc c) (bl ++ [some w.heap.size]) (hp ++ [o])) → ORep (I.env (w.alloc c) (bl ++ [some w.heap.size]) (hp ++ [o])) (some w.heap.size) o) :
    HSim I (w.alloc c) (bl ++ [some w.heap.size]) (hp ++ [o]) ∧ EnvLe (I.env w bl hp) (I.env (w.alloc c) (bl ++ [some w.heap.size]) (hp ++ [o])) := by
  have hle : EnvLe (I.env w bl hp) (I.env (w.alloc c) (bl ++ [some w.heap.size]) (hp ++ [o])) := by
    refine ⟨fun b hb hlt => ⟨⟨hb.1, fun hm => ?_⟩, heap_alloc_lt hlt⟩, fun r b hr => ?_, fun r x hx => rowShape_append hx, fun r b hr => ?_⟩
    · rcases List.mem_append.mp hm with hm | hm
      · exact hb.2 hm
      · simp only [List.mem_singleton, Option.some.injEq] at hm
        subst hm
        exact absurd hlt (Nat.lt_irrefl _)
    · have hlt : r < bl.length := (List.getElem?_eq_some_iff.mp hr).1
      show (bl ++ [some w.heap.size])[r]? = _
      rw [List.getElem?_append_left hlt]; exact hr
    · have := (h.at_ r b hr).1
      show blockSize w b ≤ blockSize (w.alloc c) b
      unfold blockSize
      rw [heap_alloc_lt this]
      exact Nat.le_refl _
  refine ⟨h.ext hle.subOk (by simp [h.len]) (by simp) ?_ ?_ ?_ (by simp) (fun b hb hn => ?_) rfl rfl rfl ?_, hle⟩
  · intro r r' b h1 h2
    rcases getElem?_append_some h1 with h1 | ⟨h1, h1'⟩ <;> rcases getElem?_append_some h2 with h2 | ⟨h2, h2'⟩
    · exact h.inj r r' b h1 h2
    · simp only [Option.some.injEq] at h2'; subst h2'; exact absurd (h.at_ r _ h1).1 (Nat.lt_irrefl _)
    · simp only [Option.some.injEq] at h1'; subst h1'; exact absurd (h.at_ r' _ h2).1 (Nat.lt_irrefl _)
    · omega
  · intro r b h1
    rcases getElem?_append_some h1 with h1 | ⟨h1, h1'⟩
    · have := h.at_ r b h1
      exact ⟨by simp; omega, this.2⟩
    · simp only [Option.some.injEq] at h1'; subst h1'
      exact ⟨by simp, .inr h.le⟩
  · intro r o' hr
    rcases getElem?_append_some hr with h1 | ⟨h1, h1'⟩
    · right
      have hlt : r < bl.length := by rw [h.len]; exact (List.getElem?_eq_some_iff.mp h1).1
      refine ⟨r, o', h1, ?_, by rw [List.getElem?_append_left hlt], fun k hk => heap_alloc_lt ?_⟩
      · cases o' <;> simp [AO.sub, AV.subL_id]
      · rw [Option.join_eq_some_iff] at hk
        exact (h.at_ r k hk).1
    · left
      subst h1'
      have : (bl ++ [some w.heap.size])[r]?.join = some w.heap.size := by
        subst h1
        rw [← h.len]; simp
      rw [this]
      exact ho hle
  · exact heap_alloc_lt (Nat.lt_of_lt_of_le hb h.le)
  · intro j o' o1 hj hf hj1 hf1
    have h1 := (List.getElem?_eq_some_iff.mp hj1).1
    have h3 := h.len
    rw [List.getElem?_append_left (by omega), List.getElem?_append_left h1]
    exact ⟨rfl, o1, hj1, hf1⟩

theorem rowShape_map {hp : List AO} {g : AV → AV} {r : Nat} : rowShape (hp.map (AO.sub g)) r = rowShape hp r := by
  unfold rowShape
  rw [List.getElem?_map]
  cases h : hp[r]? with
  | none => rfl
  | some o => cases o <;> rfl

theorem rowShape_set_ne {hp : List AO} {r r' : Nat} {o : AO} (h : r' ≠ r) : rowShape (hp.set r o) r' = rowShape hp r' := by
  unfold rowShape
  rw [List.getElem?_set_ne (Ne.symm h)]

/-- An object's place and contents turn; whoever looked into it looks no more. -/
theorem HSim.move {I : Inp} {w w' : World} {bl : List (Option Nat)} {hp : List AO} (h : HSim I w bl hp) (r : Nat) (o o' : AO) (hr : hp[r]? = some o) (q : Option Nat)
    (hw : ∀ b, b < w.heap.size → bl[r]? ≠ some (some b) → w'.heap[b]? = w.heap[b]?) (hsz : w.heap.size ≤ w'.heap.size)
    (hos : w'.os = w.os) (ht : w'.tape = w.tape) (hout : w'.output = w.output)
    (hq : ∀ k, q = some k → k < w'.heap.size ∧ (bl[r]? = some (some k) ∨ w.heap.size ≤ k))
    (hfix : o.fixed = true → some q = bl[r]? ∧ o'.fixed = true)
    (ho : SubOk (I.env w bl hp) (I.env w' (bl.set r q) ((hp.map (AO.sub (gPurge r))).set r o')) (gPurge r) → ORep (I.env w' (bl.set r q) ((hp.map (AO.sub (gPurge r))).set r o')) q o') :
    HSim I w' (bl.set r q) ((hp.map (AO.sub (gPurge r))).set r o') ∧ SubOk (I.env w bl hp) (I.env w' (bl.set r q) ((hp.map (AO.sub (gPurge r))).set r o')) (gPurge r) := by
  have hrl : r < bl.length := by rw [h.len]; exact (List.getElem?_eq_some_iff.mp hr).1
  have hother : ∀ (r' b : Nat), r' ≠ r → bl[r']? = some (some b) → b < w.heap.size ∧ bl[r]? ≠ some (some b) := fun r' b hne hb =>
    ⟨(h.at_ r' b hb).1, fun hb' => hne (h.inj r' r b hb hb')⟩
  have hsub : SubOk (I.env w bl hp) (I.env w' (bl.set r q) ((hp.map (AO.sub (gPurge r))).set r o')) (gPurge r) := by
    refine ⟨fun b hb hlt => ⟨⟨hb.1, fun hm => ?_⟩, hw b hlt fun hb' => hb.2 (List.mem_of_getElem? hb')⟩, ?_, ?_, ?_⟩
    · obtain ⟨j, hj⟩ := mem_bl hm
      by_cases hjr : j = r
      · subst hjr
        rw [List.getElem?_set_self hrl] at hj
        simp only [Option.some.injEq] at hj
        rcases (hq b hj).2 with h1 | h1
        · exact hb.2 (List.mem_of_getElem? h1)
        · exact absurd hlt (Nat.not_lt.mpr h1)
      · rw [List.getElem?_set_ne (Ne.symm hjr)] at hj
        exact hb.2 (List.mem_of_getElem? hj)
    · intro r' lo hi v hv
      unfold gPurge
      by_cases hne : r' = r
      · simp [hne, Rep]
      · simp only [if_neg hne]
        simp only [Rep] at hv ⊢
        obtain ⟨sz, n, h1, h2, h3, ad, cap, h4, h5, h6⟩ := hv
        refine ⟨sz, n, ?_, h2, h3, ad, cap, h4, h5, ?_⟩
        · show rowShape ((hp.map _).set r o') r' = _
          rw [rowShape_set_ne hne, rowShape_map]; exact h1
        · rcases h6 with h6 | ⟨b, hb, ha, hs⟩
          · exact .inl h6
          · refine .inr ⟨b, ?_, ha, ?_⟩
            · show (bl.set r q)[r']? = _
              rw [List.getElem?_set_ne (Ne.symm hne)]; exact hb
            · have hb0 : bl[r']? = some (some b) := hb
              obtain ⟨h7, h8⟩ := hother r' b hne hb0
              show _ ≤ blockSize w' b
              unfold blockSize
              rw [hw b h7 h8]; exact hs
    · intro r' off v hv
      unfold gPurge
      by_cases hne : r' = r
      · simp [hne, Rep]
      · simp only [if_neg hne]
        simp only [Rep] at hv ⊢
        obtain ⟨b, hb, rfl⟩ := hv
        refine ⟨b, ?_, rfl⟩
        show (bl.set r q)[r']? = _
        rw [List.getElem?_set_ne (Ne.symm hne)]; exact hb
    · intro r' i off v hv
      unfold gPurge
      by_cases hne : r' = r
      · simp [hne, Rep]
      · simp only [if_neg hne]
        simp only [Rep] at hv ⊢
        obtain ⟨b, sz, n, hb, hs, rfl⟩ := hv
        refine ⟨b, sz, n, ?_, ?_, rfl⟩
        · show (bl.set r q)[r']? = _
          rw [List.getElem?_set_ne (Ne.symm hne)]; exact hb
        · show rowShape ((hp.map _).set r o') r' = _
          rw [rowShape_set_ne hne, rowShape_map]; exact hs
  refine ⟨h.ext hsub (by simp [h.len]) (by simp) ?_ ?_ ?_ hsz (fun b hb hn => ?_) hos ht hout ?_, hsub⟩
  · intro r1 r2 b h1 h2
    by_cases e1 : r1 = r <;> by_cases e2 : r2 = r
    · omega
    · subst e1
      rw [List.getElem?_set_self hrl] at h1
      rw [List.getElem?_set_ne (Ne.symm e2)] at h2
      simp only [Option.some.injEq] at h1
      rcases (hq b h1).2 with h3 | h3
      · exact h.inj _ _ b h3 h2
      · exact absurd (h.at_ r2 b h2).1 (Nat.not_lt.mpr h3)
    · subst e2
      rw [List.getElem?_set_self hrl] at h2
      rw [List.getElem?_set_ne (Ne.symm e1)] at h1
      simp only [Option.some.injEq] at h2
      rcases (hq b h2).2 with h3 | h3
      · exact h.inj _ _ b h1 h3
      · exact absurd (h.at_ r1 b h1).1 (Nat.not_lt.mpr h3)
    · rw [List.getElem?_set_ne (Ne.symm e1)] at h1
      rw [List.getElem?_set_ne (Ne.symm e2)] at h2
      exact h.inj _ _ b h1 h2
  · intro r1 b h1
    by_cases e1 : r1 = r
    · subst e1
      rw [List.getElem?_set_self hrl] at h1
      simp only [Option.some.injEq] at h1
      obtain ⟨h2, h3⟩ := hq b h1
      refine ⟨h2, ?_⟩
      rcases h3 with h3 | h3
      · exact (h.at_ r1 b h3).2
      · exact .inr (Nat.le_trans h.le h3)
    · rw [List.getElem?_set_ne (Ne.symm e1)] at h1
      have := h.at_ r1 b h1
      exact ⟨Nat.lt_of_lt_of_le this.1 hsz, this.2⟩
  · intro r1 o1 h1
    by_cases e1 : r1 = r
    · subst e1
      left
      rw [List.getElem?_set_self (by simp; rw [← h.len]; exact hrl)] at h1
      simp only [Option.some.injEq] at h1
      subst h1
      rw [List.getElem?_set_self hrl]
      exact ho hsub
    · right
      rw [List.getElem?_set_ne (Ne.symm e1), List.getElem?_map] at h1
      cases h2 : hp[r1]? with
      | none => simp [h2] at h1
      | some o2 =>
        simp only [h2, Option.map_some, Option.some.injEq] at h1
        refine ⟨r1, o2, h2, h1.symm, by rw [List.getElem?_set_ne (Ne.symm e1)], fun k hk => ?_⟩
        rw [Option.join_eq_some_iff] at hk
        obtain ⟨h3, h4⟩ := hother r1 k e1 hk
        exact hw k h3 h4
  · refine hw b (Nat.lt_of_lt_of_le hb h.le) fun hb' => ?_
    rcases (h.at_ r b hb').2 with h1 | h1
    · exact hn h1
    · exact absurd hb (Nat.not_lt.mpr h1)
  · intro j o1 o2 hj hf hj2 hf2
    by_cases e1 : j = r
    · subst e1
      rw [hr] at hj2
      simp only [Option.some.injEq] at hj2
      subst hj2
      obtain ⟨h1, h2⟩ := hfix hf2
      rw [List.getElem?_set_self hrl, List.getElem?_set_self (by simp; rw [← h.len]; exact hrl)]
      exact ⟨h1, o', rfl, h2⟩
    · rw [List.getElem?_set_ne (Ne.symm e1), List.getElem?_set_ne (Ne.symm e1), List.getElem?_map, hj2]
      refine ⟨rfl, _, rfl, ?_⟩
      cases o2 <;> simp_all [AO.sub, AO.fixed]

/-- An object's contents turn, its shape stays. -/
theorem HSim.same {I : Inp} {w w' : World} {bl : List (Option Nat)} {hp : List AO} (h : HSim I w bl hp) (r k : Nat) (o' : AO) (hk : bl[r]? = some (some k))
    (hw : ∀ b, b ≠ k → w'.heap[b]? = w.heap[b]?) (hsz : w'.heap.size = w.heap.size) (hbs : blockSize w k ≤ blockSize w' k)
    (hos : w'.os = w.os) (ht : w'.tape = w.tape) (hout : w'.output = w.output)
    (hsh : ∀ x, rowShape hp r = some x → rowShape (hp.set r o') r = some x) (hfix : ∀ o, hp[r]? = some o → o.fixed = true → o'.fixed = true)
    (ho : EnvLe (I.env w bl hp) (I.env w' bl (hp.set r o')) → ORep (I.env w' bl (hp.set r o')) (some k) o') :
    HSim I w' bl (hp.set r o') ∧ EnvLe (I.env w bl hp) (I.env w' bl (hp.set r o')) := by
  have hsub : EnvLe (I.env w bl hp) (I.env w' bl (hp.set r o')) := by
    refine ⟨fun b hb hlt => ⟨hb, hw b fun e => ?_⟩, fun r b hb => hb, fun r' x hx => ?_, fun r' b hb => ?_⟩
    · subst e; exact hb.2 (List.mem_of_getElem? hk)
    · show rowShape (hp.set r o') r' = _
      by_cases e : r' = r
      · subst e; exact hsh x hx
      · rw [rowShape_set_ne e]; exact hx
    · show blockSize w b ≤ blockSize w' b
      by_cases e : b = k
      · subst e; exact hbs
      · unfold blockSize; rw [hw b e]; exact Nat.le_refl _
  refine ⟨h.ext hsub.subOk (by simp [h.len]) (by simp) h.inj (fun r b hb => by rw [hsz]; exact h.at_ r b hb) ?_ (by omega) (fun b hb hn => hw b fun e => ?_) hos ht hout ?_, hsub⟩
  · intro r1 o1 h1
    by_cases e1 : r1 = r
    · subst e1
      left
      have hrl : r1 < hp.length := by rw [← h.len]; exact (List.getElem?_eq_some_iff.mp hk).1
      rw [List.getElem?_set_self hrl] at h1
      simp only [Option.some.injEq] at h1
      subst h1
      rw [hk]
      exact ho hsub
    · right
      rw [List.getElem?_set_ne (Ne.symm e1)] at h1
      refine ⟨r1, o1, h1, ?_, rfl, fun q hq => hw q fun e => ?_⟩
      · cases o1 <;> simp [AO.sub, AV.subL_id]
      · subst e
        rw [Option.join_eq_some_iff] at hq
        exact e1 (h.inj _ _ _ hq hk)
  · subst e
    rcases (h.at_ r b hk).2 with h1 | h1
    · exact hn h1
    · exact absurd hb (Nat.not_lt.mpr h1)
  · intro j o1 o2 hj hf hj2 hf2
    refine ⟨rfl, ?_⟩
    by_cases e1 : j = r
    · subst e1
      rw [List.getElem?_set_self (List.getElem?_eq_some_iff.mp hj2).1]
      exact ⟨o', rfl, hfix o2 hj2 hf2⟩
    · rw [List.getElem?_set_ne (Ne.symm e1)]
      exact ⟨o2, hj2, hf2⟩

/-- A new own list without memory yet. -/
theorem HSim.ghost {I : Inp} {w : World} {bl : List (Option Nat)} {hp : List AO} (h : HSim I w bl hp) (t : Ty) :
    HSim I w (bl ++ [none]) (hp ++ [.row t []]) ∧ EnvLe (I.env w bl hp) (I.env w (bl ++ [none]) (hp ++ [.row t []])) := by
  have hback : ∀ (r b : Nat), (bl ++ [none])[r]? = some (some b) → bl[r]? = some (some b) := fun r b h1 => by
    rcases getElem?_append_some h1 with h1 | ⟨_, h1⟩
    · exact h1
    · cases h1
  have hle : EnvLe (I.env w bl hp) (I.env w (bl ++ [none]) (hp ++ [.row t []])) := by
    refine ⟨fun b hb hlt => ⟨⟨hb.1, fun hm => ?_⟩, rfl⟩, fun r b hr => ?_, fun r x hx => rowShape_append hx, fun r b hr => Nat.le_refl _⟩
    · rcases List.mem_append.mp hm with hm | hm
      · exact hb.2 hm
      · simp at hm
    · have hlt : r < bl.length := (List.getElem?_eq_some_iff.mp hr).1
      show (bl ++ [none])[r]? = _
      rw [List.getElem?_append_left hlt]; exact hr
  refine ⟨h.ext hle.subOk (by simp [h.len]) (by simp) (fun r r' b h1 h2 => h.inj r r' b (hback _ _ h1) (hback _ _ h2)) (fun r b h1 => h.at_ r b (hback _ _ h1)) ?_ (Nat.le_refl _) (fun _ _ _ => rfl) rfl rfl rfl ?_, hle⟩
  · intro r o' hr
    rcases getElem?_append_some hr with h1 | ⟨h1, h1'⟩
    · right
      have hlt : r < bl.length := by rw [h.len]; exact (List.getElem?_eq_some_iff.mp h1).1
      refine ⟨r, o', h1, ?_, by rw [List.getElem?_append_left hlt], fun _ _ => rfl⟩
      cases o' <;> simp [AO.sub, AV.subL_id]
    · left
      subst h1'
      have : (bl ++ [none])[r]?.join = none := by
        subst h1
        rw [← h.len]; simp
      rw [this]
      exact .inl ⟨rfl, rfl⟩
  · intro j o' o1 hj hf hj1 hf1
    have h1 := (List.getElem?_eq_some_iff.mp hj1).1
    have h3 := h.len
    rw [List.getElem?_append_left (by omega), List.getElem?_append_left h1]
    exact ⟨rfl, o1, hj1, hf1⟩

/-! ### freezing -/

theorem killObjs_get (rs : List Nat) : ∀ (hp : List AO) (i j : Nat), (killObjs rs i hp)[j]? = (hp[j]?).map fun o => match o with
    | .row t l => if rs.contains (i + j) then .dead else .row t l
    | o => o
  | [], i, j => by simp [killObjs]
  | o :: hp, i, 0 => by cases o <;> simp [killObjs]
  | o :: hp, i, j + 1 => by
    have ih := killObjs_get rs hp (i + 1) j
    have e : i + 1 + j = i + (j + 1) := by omega
    rw [e] at ih
    cases o <;> simpa [killObjs] using ih

theorem killObjs_length (rs : List Nat) : ∀ (hp : List AO) (i : Nat), (killObjs rs i hp).length = hp.length
  | [], i => by simp [killObjs]
  | o :: hp, i => by cases o <;> simp [killObjs, killObjs_length rs hp (i + 1)]

/-- A part of a row, as a list for good. -/
theorem list_of_row {E : Env} {t : Ty} {l : List t.T} {vs : Array Value} {e : TypeId} {b lo len cap : Nat} (hok : E.ok b) (hb : E.w.heap[b]? = some (.cells vs e (0, 0)))
    (hrow : RowIs E.w E.ok t l vs.toList) (hlen : lo + len ≤ l.length) (hcap : len ≤ cap) (l' : List t.T) (hl' : l' = (l.take (lo + len)).drop lo) :
    RepT E.w E.ok (.list t) l' [.slice (some ⟨b, lo * t.size, none⟩) len cap] := by
  have hll : l'.length = len := by rw [hl']; simp; omega
  simp only [RepT]
  refine ⟨_, cap, by rw [hll], by omega, fun i hi => ?_⟩
  have hi' : lo + i < l.length := by omega
  have h1 := hrow.2 (lo + i) hi'
  refine ⟨_, (vs.toList.drop ((lo + i) * t.size)).take t.size, rfl, rfl, hok, ?_, ?_, ?_⟩
  · exact h1.length
  · intro j hj
    have hlj : j < t.size := by rw [h1.length] at hj; exact hj
    have h2 := mul_le_of_lt (s := t.size) hi'
    have h3 := hrow.1
    have h4 : lo * t.size + i * t.size + j < vs.size := by
      rw [Nat.add_mul] at h2
      have : vs.toList.length = vs.size := by simp
      omega
    simp only [World.cell?, hb, Option.isSome_none, Bool.false_eq_true, if_false]
    rw [Array.getElem?_eq_getElem h4]
    congr 1
    simp only [List.getElem_take, List.getElem_drop, Array.getElem_toList, Nat.add_mul]
  · have : l'[i] = l[lo + i] := by subst hl'; simp
    rw [this]; exact h1

theorem blFreeze_get (rs : List Nat) (hp : List AO) (bl : List (Option Nat)) (j : Nat) :
    (bl.mapIdx fun i b => if rs.contains i && isRow hp i then none else b)[j]? = (bl[j]?).map fun b => if rs.contains j && isRow hp j then none else b := by
  simp [List.getElem?_mapIdx]

theorem nil_of_row {E : Env} (t : Ty) (ad : Option Addr) : RepT E.w E.ok (.list t) [] [.slice ad 0 0] := by
  simp only [RepT]
  exact ⟨ad, 0, by simp, Nat.le_refl _, fun i hi => by simp at hi⟩

/-- Where objects lie when some rows are frozen (or lent). -/
def blBor (hp : List AO) (bor : List Nat) (bl : List (Option Nat)) : List (Option Nat) := bl.mapIdx fun i b => if bor.contains i && isRow hp i then none else b

theorem HSim.freeze' {I : Inp} {w : World} {bl : List (Option Nat)} {hp : List AO} (h : HSim I w bl hp) (rs : List Nat) :
    HSim I w (blBor hp rs bl) (killObjs rs 0 (hp.map (AO.sub (gFreeze hp rs)))) ∧ SubOk (I.env w bl hp) (I.env w (blBor hp rs bl) (killObjs rs 0 (hp.map (AO.sub (gFreeze hp rs))))) (gFreeze hp rs) := by
  unfold blBor
  have hback : ∀ (r b : Nat), (bl.mapIdx fun i b => if rs.contains i && isRow hp i then none else b)[r]? = some (some b) → bl[r]? = some (some b) ∧ (rs.contains r && isRow hp r) = false := by
    intro r b h1
    rw [blFreeze_get] at h1
    cases h2 : bl[r]? with
    | none => simp [h2] at h1
    | some q =>
      rw [h2] at h1
      simp only [Option.map_some, Option.some.injEq] at h1
      split at h1
      · cases h1
      · rename_i hn; subst h1; exact ⟨rfl, by simpa using hn⟩
  have hkeep : ∀ (r : Nat) (q : Option Nat), (rs.contains r && isRow hp r) = false → bl[r]? = some q → (bl.mapIdx fun i b => if rs.contains i && isRow hp i then none else b)[r]? = some q := by
    intro r q h1 h2
    rw [blFreeze_get, h2]
    simp only [Option.map_some, h1, Bool.false_eq_true, if_false]
  have hsh : ∀ (r : Nat), (rs.contains r && isRow hp r) = false → rowShape (killObjs rs 0 (hp.map (AO.sub (gFreeze hp rs)))) r = rowShape hp r := by
    intro r h1
    have e := killObjs_get rs (hp.map (AO.sub (gFreeze hp rs))) 0 r
    unfold rowShape
    rw [e, List.getElem?_map]
    cases h2 : hp[r]? with
    | none => rfl
    | some o =>
      cases o with
      | row t l =>
        have : rs.contains r = false := by simpa [isRow, h2] using h1
        simp only [Option.map_some, AO.sub, Nat.zero_add, this, Bool.false_eq_true, if_false]
      | _ => rfl
  have hok : OkLe w (I.ok bl) w (I.ok (bl.mapIdx fun i b => if rs.contains i && isRow hp i then none else b)) := fun b hb _ =>
    ⟨⟨hb.1, fun hm => by obtain ⟨j, hj⟩ := mem_bl hm; exact hb.2 (List.mem_of_getElem? (hback j b hj).1)⟩, rfl⟩
  have hsub : SubOk (I.env w bl hp) (I.env w (bl.mapIdx fun i b => if rs.contains i && isRow hp i then none else b) (killObjs rs 0 (hp.map (AO.sub (gFreeze hp rs))))) (gFreeze hp rs) := by
    refine ⟨hok, ?_, ?_, ?_⟩
    · intro r lo hi v hv
      simp only [gFreeze]
      by_cases hc : (rs.contains r && isRow hp r) = true
      · simp only [hc, if_true]
        unfold rowList
        split
        · rename_i t l hr
          simp only [Rep] at hv ⊢
          obtain ⟨sz, n, h1, h2, h3, ad, cap, h4, h5, h6⟩ := hv
          have h1' : rowShape hp r = some (sz, n) := h1
          simp only [rowShape, hr, Option.some.injEq, Prod.mk.injEq] at h1'
          obtain ⟨rfl, rfl⟩ := h1'
          have el : part l lo hi = (l.take (lo + (hi.getD l.length - lo))).drop lo := by
            cases hi with
            | none => simp only [Option.getD_none, part] at h2 ⊢; rw [show lo + (l.length - lo) = l.length by omega, List.take_length]
            | some q => simp only [Option.getD_some, part] at h2 ⊢; rw [show lo + (q - lo) = q by omega]
          refine ⟨?_, by simp⟩
          rw [el]
          rcases h6 with h6 | ⟨b, hb, ha, hs⟩
          · subst h6
            have h7 : hi.getD l.length - lo = 0 := by omega
            rw [h4, h7]
            have : (l.take (lo + 0)).drop lo = [] := by apply List.drop_eq_nil_of_le; simp; omega
            rw [this]
            exact nil_of_row (E := I.env w (bl.mapIdx fun i b => if rs.contains i && isRow hp i then none else b) (killObjs rs 0 (hp.map (AO.sub (gFreeze hp rs))))) t ad
          · have hb' : bl[r]? = some (some b) := hb
            have hobj := h.obj r _ hr
            rw [hb'] at hobj
            rcases hobj with ⟨h8, _⟩ | ⟨k, vs, e, h8, h9, h10⟩
            · cases h8
            · simp only [Option.join_some, Option.some.injEq] at h8
              subst h8
              rw [h4, ha]
              refine list_of_row (vs := vs) (e := e) (l := l) (E := I.env w (bl.mapIdx fun i b => if rs.contains i && isRow hp i then none else b) (killObjs rs 0 (hp.map (AO.sub (gFreeze hp rs))))) ⟨?_, fun hm => ?_⟩ h9 (h10.mono hok) (by omega) h5 _ rfl
              · rcases (h.at_ r b hb').2 with h11 | h11
                · exact .inr (.inl h11)
                · exact .inr (.inr h11)
              · obtain ⟨j, hj⟩ := mem_bl hm
                obtain ⟨h12, h13⟩ := hback j b hj
                have := h.inj j r b h12 hb'
                subst this
                rw [hc] at h13; cases h13
        · simp [Rep]
      · have hc' : (rs.contains r && isRow hp r) = false := by simpa using hc
        simp only [hc', Bool.false_eq_true, if_false]
        simp only [Rep] at hv ⊢
        obtain ⟨sz, n, h1, h2, h3, ad, cap, h4, h5, h6⟩ := hv
        refine ⟨sz, n, (hsh r hc').trans h1, h2, h3, ad, cap, h4, h5, ?_⟩
        rcases h6 with h6 | ⟨b, hb, ha, hs⟩
        · exact .inl h6
        · exact .inr ⟨b, hkeep r _ hc' hb, ha, hs⟩
    · intro r off v hv
      simp only [gFreeze]
      by_cases hc : (rs.contains r && isRow hp r) = true
      · simp only [hc, if_true, Rep]
      · have hc' : (rs.contains r && isRow hp r) = false := by simpa using hc
        simp only [hc', Bool.false_eq_true, if_false]
        simp only [Rep] at hv ⊢
        obtain ⟨b, hb, rfl⟩ := hv
        exact ⟨b, hkeep r _ hc' hb, rfl⟩
    · intro r i off v hv
      simp only [gFreeze]
      by_cases hc : (rs.contains r && isRow hp r) = true
      · simp only [hc, if_true, Rep]
      · have hc' : (rs.contains r && isRow hp r) = false := by simpa using hc
        simp only [hc', Bool.false_eq_true, if_false]
        simp only [Rep] at hv ⊢
        obtain ⟨b, sz, n, hb, hs, rfl⟩ := hv
        exact ⟨b, sz, n, hkeep r _ hc' hb, (hsh r hc').trans hs, rfl⟩
  refine ⟨h.ext hsub (by simp [killObjs_length, h.len]) (by simp [killObjs_length]) (fun r r' b h1 h2 => h.inj r r' b (hback _ _ h1).1 (hback _ _ h2).1) (fun r b h1 => h.at_ r b (hback _ _ h1).1) ?_ (Nat.le_refl _) (fun _ _ _ => rfl) rfl rfl rfl ?_, hsub⟩
  · intro r o hr
    have e := killObjs_get rs (hp.map (AO.sub (gFreeze hp rs))) 0 r
    rw [hr, List.getElem?_map] at e
    cases h2 : hp[r]? with
    | none => simp [h2] at e
    | some o0 =>
      rw [h2] at e
      by_cases hc : (rs.contains r && isRow hp r) = true
      · left
        cases o0 with
        | row t l =>
          have : rs.contains r = true := by simp only [Bool.and_eq_true] at hc; exact hc.1
          simp only [Option.map_some, AO.sub, Nat.zero_add, this, if_true, Option.some.injEq] at e
          subst e
          trivial
        | _ => simp [isRow, h2] at hc
      · right
        have hc' : (rs.contains r && isRow hp r) = false := by simpa using hc
        have hlt : r < bl.length := by rw [h.len]; exact (List.getElem?_eq_some_iff.mp h2).1
        refine ⟨r, o0, h2, ?_, ?_, fun _ _ => rfl⟩
        · cases o0 with
          | row t l =>
            have : rs.contains r = false := by simpa [isRow, h2] using hc'
            simp only [Option.map_some, AO.sub, Nat.zero_add, this, Bool.false_eq_true, if_false, Option.some.injEq] at e
            subst e; rfl
          | _ =>
            simp only [Option.map_some, AO.sub, Option.some.injEq] at e
            subst e; rfl
        · rw [blFreeze_get, List.getElem?_eq_getElem hlt]
          simp only [Option.map_some, hc', Bool.false_eq_true, if_false]
  · intro j o o1 hj hf hj1 hf1
    have e := killObjs_get rs (hp.map (AO.sub (gFreeze hp rs))) 0 j
    rw [List.getElem?_map, hj1] at e
    have hlt : j < bl.length := by rw [h.len]; exact (List.getElem?_eq_some_iff.mp hj1).1
    cases o1 with
    | row t l => simp [AO.fixed] at hf1
    | dead => simp [AO.fixed] at hf1
    | box cs =>
      have hc' : isRow hp j = false := by simp [isRow, hj1]
      refine ⟨?_, _, e, rfl⟩
      rw [blFreeze_get, List.getElem?_eq_getElem hlt]
      simp [hc']
    | arr t l =>
      have hc' : isRow hp j = false := by simp [isRow, hj1]
      refine ⟨?_, _, e, rfl⟩
      rw [blFreeze_get, List.getElem?_eq_getElem hlt]
      simp [hc']

theorem HSim.freeze {I : Inp} {w : World} {bl : List (Option Nat)} {hp : List AO} (h : HSim I w bl hp) (rs : List Nat) :
    ∃ bl', HSim I w bl' (killObjs rs 0 (hp.map (AO.sub (gFreeze hp rs)))) ∧ SubOk (I.env w bl hp) (I.env w bl' (killObjs rs 0 (hp.map (AO.sub (gFreeze hp rs))))) (gFreeze hp rs) := ⟨_, h.freeze' rs⟩

theorem Sim.freeze {I : Inp} {w : World} {bl : List (Option Nat)} {s : St} {tmps : List Value} (h : Sim I w bl s tmps) (rs : List Nat) :
    ∃ bl', Sim I w bl' (s.freeze rs) tmps ∧ SubOk (I.env w bl s.hp) (I.env w bl' (s.freeze rs).hp) (gFreeze s.hp rs) := by
  obtain ⟨bl', h1, h2⟩ := h.h.freeze rs
  exact ⟨bl', ⟨h1, RepL.sub h2 _ _ h.tm, h.m⟩, h2⟩

end Go.Cellar
