/- The invariant between the abstract state and the machine's memory, and how each kind of change keeps it. No condition. -/
import Derived.Test.YtjdjmbogopadaaaGreatDoorAbs2
import Derived.Laws.CopyRow
import Derived.Lib.UnsafeStr
import Derived.Laws.MakeOwn
import Derived.Laws.Append
import Derived.Laws.Strings
import Derived.Laws.Entries
import Derived.Laws.StructEq
import Derived.Laws.Cover3

namespace Go.Cellar
open Go

def AO.fixed : AO → Bool
  | .box _ => true
  | .arr _ _ => true
  | .bld _ _ => true
  | _ => false

/-- What a call began with. -/
structure Inp where
  w0 : World
  ok0 : Nat → Prop
  bl0 : List (Option Nat)
  hin : List AO

def Inp.ok (I : Inp) (bl : List (Option Nat)) (b : Nat) : Prop := (I.ok0 b ∨ some b ∈ I.bl0 ∨ I.w0.heap.size ≤ b) ∧ some b ∉ bl

def Inp.env (I : Inp) (w : World) (bl : List (Option Nat)) (hp : List AO) : Env := ⟨w, I.ok bl, bl, hp⟩

def ORep (E : Env) (b : Option Nat) : AO → Prop
  | .dead => True
  | .box cs => ∃ k vs e, b = some k ∧ E.w.heap[k]? = some (.cells vs e (0, 0)) ∧ RepL E cs vs.toList
  | .row t l => (b = none ∧ l = []) ∨ ∃ k vs e, b = some k ∧ E.w.heap[k]? = some (.cells vs e (0, 0)) ∧ RowIs E.w E.ok t l vs.toList
  | .arr t l => ∃ k vs e, b = some k ∧ E.w.heap[k]? = some (.cells vs e (0, 0)) ∧ RowIs E.w E.ok t l vs.toList
  | .bld T v => ∃ k p x, b = some k ∧ E.w.heap[k]? = some (.cells #[p, x] T (0, 0)) ∧ (p = .pointer none ∨ p = .pointer (some ⟨k, 0, none⟩)) ∧ Rep E v x ∧ ∀ a n, x = .slice a n 0 → x = .slice none 0 0
  | .buf e l => (b = none ∧ l = []) ∨ ∃ k cur fz, b = some k ∧ E.w.heap[k]? = some (.cells cur e fz) ∧ fz.2 ≤ l.length ∧ l.length ≤ cur.size ∧ cur.toList.take l.length = Lib.byteCells l

structure HSim (I : Inp) (w : World) (bl : List (Option Nat)) (hp : List AO) : Prop where
  len : bl.length = hp.length
  many : I.hin.length ≤ hp.length
  inj : ∀ (r r' b : Nat), bl[r]? = some (some b) → bl[r']? = some (some b) → r = r'
  at_ : ∀ (r b : Nat), bl[r]? = some (some b) → b < w.heap.size ∧ (some b ∈ I.bl0 ∨ I.w0.heap.size ≤ b)
  obj : ∀ (r : Nat) (o : AO), hp[r]? = some o → ORep (I.env w bl hp) (bl[r]?.join) o
  le : I.w0.heap.size ≤ w.heap.size
  old : ∀ b, b < I.w0.heap.size → some b ∉ I.bl0 → w.heap[b]? = I.w0.heap[b]?
  os : w.os = I.w0.os
  tape : w.tape = I.w0.tape
  output : w.output = I.w0.output
  pin : ∀ (j : Nat) (o : AO), I.hin[j]? = some o → o.fixed = true → bl[j]? = I.bl0[j]? ∧ ∃ o1, hp[j]? = some o1 ∧ o1.fixed = true

structure Sim (I : Inp) (w : World) (bl : List (Option Nat)) (s : St) (tmps : List Value) : Prop where
  h : HSim I w bl s.hp
  tm : RepL (I.env w bl s.hp) s.tm tmps
  m : s.m = I.hin.length

theorem ORep.sub {E E' : Env} {g : AV → AV} (hg : SubOk E E' g) {b : Option Nat} {o : AO} (h : ORep E b o) (hb : ∀ k, b = some k → E'.w.heap[k]? = E.w.heap[k]?) : ORep E' b (o.sub g) := by
  cases o with
  | dead => simp [AO.sub, ORep]
  | box cs =>
    obtain ⟨k, vs, e, rfl, h1, h2⟩ := h
    exact ⟨k, vs, e, rfl, by rw [hb k rfl]; exact h1, RepL.sub hg cs _ h2⟩
  | row t l =>
    rcases h with h | ⟨k, vs, e, rfl, h1, h2⟩
    · exact .inl h
    · exact .inr ⟨k, vs, e, rfl, by rw [hb k rfl]; exact h1, h2.mono hg.ok⟩
  | arr t l =>
    obtain ⟨k, vs, e, rfl, h1, h2⟩ := h
    exact ⟨k, vs, e, rfl, by rw [hb k rfl]; exact h1, h2.mono hg.ok⟩
  | bld T v =>
    obtain ⟨k, p, x, rfl, h1, h2, h3, h4⟩ := h
    exact ⟨k, p, x, rfl, by rw [hb k rfl]; exact h1, h2, Rep.sub hg v x h3, h4⟩
  | buf e l =>
    rcases h with h | ⟨k, cur, fz, rfl, h1, h2⟩
    · exact .inl h
    · exact .inr ⟨k, cur, fz, rfl, by rw [hb k rfl]; exact h1, h2⟩

theorem Inp.ok_not (I : Inp) {bl : List (Option Nat)} {r b : Nat} (h : bl[r]? = some (some b)) : ¬ I.ok bl b :=
  fun hk => hk.2 (List.mem_of_getElem? h)

theorem mem_bl {bl : List (Option Nat)} {b : Nat} (h : some b ∈ bl) : ∃ r : Nat, bl[r]? = some (some b) := List.mem_iff_getElem?.mp h

/-- A new block with its object. -/
theorem HSim.ext {I : Inp} {w w' : World} {bl bl' : List (Option Nat)} {hp hp' : List AO} (h : HSim I w bl hp) {g : AV → AV} (hg : SubOk (I.env w bl hp) (I.env w' bl' hp') g)
    (hlen : bl'.length = hp'.length) (hmany : hp.length ≤ hp'.length)
    (hinj : ∀ (r r' b : Nat), bl'[r]? = some (some b) → bl'[r']? = some (some b) → r = r')
    (hat : ∀ (r b : Nat), bl'[r]? = some (some b) → b < w'.heap.size ∧ (some b ∈ I.bl0 ∨ I.w0.heap.size ≤ b))
    (hobj : ∀ (r : Nat) (o : AO), hp'[r]? = some o → ORep (I.env w' bl' hp') (bl'[r]?.join) o ∨
      ∃ (r0 : Nat) (o0 : AO), hp[r0]? = some o0 ∧ o = o0.sub g ∧ bl'[r]?.join = bl[r0]?.join ∧ ∀ k, bl[r0]?.join = some k → w'.heap[k]? = w.heap[k]?)
    (hle : w.heap.size ≤ w'.heap.size)
    (hold : ∀ b, b < I.w0.heap.size → some b ∉ I.bl0 → w'.heap[b]? = w.heap[b]?)
    (hos : w'.os = w.os) (ht : w'.tape = w.tape) (ho : w'.output = w.output)
    (hpin : ∀ (j : Nat) (o o1 : AO), I.hin[j]? = some o → o.fixed = true → hp[j]? = some o1 → o1.fixed = true → bl'[j]? = bl[j]? ∧ ∃ o2, hp'[j]? = some o2 ∧ o2.fixed = true) : HSim I w' bl' hp' where
  len := hlen
  many := Nat.le_trans h.many hmany
  inj := hinj
  at_ := hat
  obj := by
    intro r o hr
    rcases hobj r o hr with h1 | ⟨r0, o0, h1, rfl, h3, h4⟩
    · exact h1
    · rw [h3]; exact (h.obj r0 o0 h1).sub hg h4
  le := Nat.le_trans h.le hle
  old := fun b hb hn => (hold b hb hn).trans (h.old b hb hn)
  os := hos.trans h.os
  tape := ht.trans h.tape
  output := ho.trans h.output
  pin := fun j o h1 h2 => by
    obtain ⟨h3, o1, h4, h5⟩ := h.pin j o h1 h2
    obtain ⟨h6, h7⟩ := hpin j o o1 h1 h2 h4 h5
    exact ⟨h6.trans h3, h7⟩

theorem getElem?_append_some {α : Type} {l : List α} {x y : α} {r : Nat} (h : (l ++ [x])[r]? = some y) : l[r]? = some y ∨ (r = l.length ∧ y = x) := by
  rw [List.getElem?_append] at h
  split at h
  · exact .inl h
  · rename_i hn
    have : r - l.length = 0 := by
      cases hq : r - l.length with
      | zero => rfl
      | succ n => rw [hq] at h; simp at h
    rw [this] at h
    simp at h
    exact .inr ⟨by omega, h.symm⟩

theorem rowShape_append {hp : List AO} {o : AO} {r : Nat} {x : Nat × Nat} (h : rowShape hp r = some x) : rowShape (hp ++ [o]) r = some x := by
  unfold rowShape at h ⊢
  cases hr : hp[r]? with
  | none => simp [hr] at h
  | some q =>
    have hlt : r < hp.length := (List.getElem?_eq_some_iff.mp hr).1
    rw [List.getElem?_append_left hlt, hr]
    simpa [hr] using h

theorem heap_alloc_lt {w : World} {o : Obj} {b : Nat} (h : b < w.heap.size) : (w.alloc o).heap[b]? = w.heap[b]? := by
  show (w.heap.push o)[b]? = _
  rw [Array.getElem?_push, if_neg (by omega)]

theorem heap_alloc_new {w : World} {o : Obj} : (w.alloc o).heap[w.heap.size]? = some o := by
  show (w.heap.push o)[w.heap.size]? = some o
  rw [Array.getElem?_push, if_pos rfl]

/-- The heap grows by one block, which a new object names. -/
theorem HSim.alloc {I : Inp} {w : World} {bl : List (Option Nat)} {hp : List AO} (h : HSim I w bl hp) (c : Obj) (o : AO)
    (ho : EnvLe (I.env w bl hp) (I.env (w.alloc c) (bl ++ [some w.heap.size]) (hp ++ [o])) → ORep (I.env (w.alloc c) (bl ++ [some w.heap.size]) (hp ++ [o])) (some w.heap.size) o) :
    HSim I (w.alloc c) (bl ++ [some w.heap.size]) (hp ++ [o]) ∧ EnvLe (I.env w bl hp) (I.env (w.alloc c) (bl ++ [some w.heap.size]) (hp ++ [o])) := by
  have hle : EnvLe (I.env w bl hp) (I.env (w.alloc c) (bl ++ [some w.heap.size]) (hp ++ [o])) := by
    refine ⟨fun b hb hlt => ⟨⟨hb.1, fun hm => ?_⟩, heap_alloc_lt hlt⟩, fun r b hr => ?_, fun r x hx => rowShape_append hx, fun r b hr => ?_⟩
    · rcases List.mem_append.mp hm with hm | hm
      · exact hb.2 hm
      · simp only [List.mem_singleton, Option.some.injEq] at hm
        subst hm
        exact absurd hlt (Nat.lt_irrefl _)
    · have hlt : r < bl.length := (List.getElem?_eq_some_iff.mp hr).1
      show (bl ++ [some w.heap.size])[r]? = _
      rw [List.getElem?_append_left hlt]; exact hr
    · have := (h.at_ r b hr).1
      show blockSize w b ≤ blockSize (w.alloc c) b
      unfold blockSize
      rw [heap_alloc_lt this]
      exact Nat.le_refl _
  refine ⟨h.ext hle.subOk (by simp [h.len]) (by simp) ?_ ?_ ?_ (by simp) (fun b hb hn => ?_) rfl rfl rfl ?_, hle⟩
  · intro r r' b h1 h2
    rcases getElem?_append_some h1 with h1 | ⟨h1, h1'⟩ <;> rcases getElem?_append_some h2 with h2 | ⟨h2, h2'⟩
    · exact h.inj r r' b h1 h2
    · simp only [Option.some.injEq] at h2'; subst h2'; exact absurd (h.at_ r _ h1).1 (Nat.lt_irrefl _)
    · simp only [Option.some.injEq] at h1'; subst h1'; exact absurd (h.at_ r' _ h2).1 (Nat.lt_irrefl _)
    · omega
  · intro r b h1
    rcases getElem?_append_some h1 with h1 | ⟨h1, h1'⟩
    · have := h.at_ r b h1
      exact ⟨by simp; omega, this.2⟩
    · simp only [Option.some.injEq] at h1'; subst h1'
      exact ⟨by simp, .inr h.le⟩
  · intro r o' hr
    rcases getElem?_append_some hr with h1 | ⟨h1, h1'⟩
    · right
      have hlt : r < bl.length := by rw [h.len]; exact (List.getElem?_eq_some_iff.mp h1).1
      refine ⟨r, o', h1, ?_, by rw [List.getElem?_append_left hlt], fun k hk => heap_alloc_lt ?_⟩
      · cases o' <;> simp [AO.sub, AV.subL_id, AV.sub_id]
      · rw [Option.join_eq_some_iff] at hk
        exact (h.at_ r k hk).1
    · left
      subst h1'
      have : (bl ++ [some w.heap.size])[r]?.join = some w.heap.size := by
        subst h1
        rw [← h.len]; simp
      rw [this]
      exact ho hle
  · exact heap_alloc_lt (Nat.lt_of_lt_of_le hb h.le)
  · intro j o' o1 hj hf hj1 hf1
    have h1 := (List.getElem?_eq_some_iff.mp hj1).1
    have h3 := h.len
    rw [List.getElem?_append_left (by omega), List.getElem?_append_left h1]
    exact ⟨rfl, o1, hj1, hf1⟩

theorem rowShape_map {hp : List AO} {g : AV → AV} {r : Nat} : rowShape (hp.map (AO.sub g)) r = rowShape hp r := by
  unfold rowShape
  rw [List.getElem?_map]
  cases h : hp[r]? with
  | none => rfl
  | some o => cases o <;> rfl

theorem rowShape_set_ne {hp : List AO} {r r' : Nat} {o : AO} (h : r' ≠ r) : rowShape (hp.set r o) r' = rowShape hp r' := by
  unfold rowShape
  rw [List.getElem?_set_ne (Ne.symm h)]

/-- An object's place and contents turn; whoever looked into it looks no more. -/
theorem HSim.move {I : Inp} {w w' : World} {bl : List (Option Nat)} {hp : List AO} (h : HSim I w bl hp) (r : Nat) (o o' : AO) (hr : hp[r]? = some o) (q : Option Nat)
    (hw : ∀ b, b < w.heap.size → bl[r]? ≠ some (some b) → w'.heap[b]? = w.heap[b]?) (hsz : w.heap.size ≤ w'.heap.size)
    (hos : w'.os = w.os) (ht : w'.tape = w.tape) (hout : w'.output = w.output)
    (hq : ∀ k, q = some k → k < w'.heap.size ∧ (bl[r]? = some (some k) ∨ w.heap.size ≤ k))
    (hfix : o.fixed = true → some q = bl[r]? ∧ o'.fixed = true)
    (ho : SubOk (I.env w bl hp) (I.env w' (bl.set r q) ((hp.map (AO.sub (gPurge r))).set r o')) (gPurge r) → ORep (I.env w' (bl.set r q) ((hp.map (AO.sub (gPurge r))).set r o')) q o') :
    HSim I w' (bl.set r q) ((hp.map (AO.sub (gPurge r))).set r o') ∧ SubOk (I.env w bl hp) (I.env w' (bl.set r q) ((hp.map (AO.sub (gPurge r))).set r o')) (gPurge r) := by
  have hrl : r < bl.length := by rw [h.len]; exact (List.getElem?_eq_some_iff.mp hr).1
  have hother : ∀ (r' b : Nat), r' ≠ r → bl[r']? = some (some b) → b < w.heap.size ∧ bl[r]? ≠ some (some b) := fun r' b hne hb =>
    ⟨(h.at_ r' b hb).1, fun hb' => hne (h.inj r' r b hb hb')⟩
  have hsub : SubOk (I.env w bl hp) (I.env w' (bl.set r q) ((hp.map (AO.sub (gPurge r))).set r o')) (gPurge r) := by
    refine ⟨fun b hb hlt => ⟨⟨hb.1, fun hm => ?_⟩, hw b hlt fun hb' => hb.2 (List.mem_of_getElem? hb')⟩, ?_, ?_, ?_⟩
    · obtain ⟨j, hj⟩ := mem_bl hm
      by_cases hjr : j = r
      · subst hjr
        rw [List.getElem?_set_self hrl] at hj
        simp only [Option.some.injEq] at hj
        rcases (hq b hj).2 with h1 | h1
        · exact hb.2 (List.mem_of_getElem? h1)
        · exact absurd hlt (Nat.not_lt.mpr h1)
      · rw [List.getElem?_set_ne (Ne.symm hjr)] at hj
        exact hb.2 (List.mem_of_getElem? hj)
    · intro r' lo hi v hv
      unfold gPurge
      by_cases hne : r' = r
      · simp [hne, Rep]
      · simp only [if_neg hne]
        simp only [Rep] at hv ⊢
        obtain ⟨sz, n, h1, h2, h3, ad, cap, h4, h5, h6⟩ := hv
        refine ⟨sz, n, ?_, h2, h3, ad, cap, h4, h5, ?_⟩
        · show rowShape ((hp.map _).set r o') r' = _
          rw [rowShape_set_ne hne, rowShape_map]; exact h1
        · rcases h6 with h6 | ⟨b, hb, ha, hs⟩
          · exact .inl h6
          · refine .inr ⟨b, ?_, ha, ?_⟩
            · show (bl.set r q)[r']? = _
              rw [List.getElem?_set_ne (Ne.symm hne)]; exact hb
            · have hb0 : bl[r']? = some (some b) := hb
              obtain ⟨h7, h8⟩ := hother r' b hne hb0
              show _ ≤ blockSize w' b
              unfold blockSize
              rw [hw b h7 h8]; exact hs
    · intro r' off v hv
      unfold gPurge
      by_cases hne : r' = r
      · simp [hne, Rep]
      · simp only [if_neg hne]
        simp only [Rep] at hv ⊢
        obtain ⟨b, hb, rfl⟩ := hv
        refine ⟨b, ?_, rfl⟩
        show (bl.set r q)[r']? = _
        rw [List.getElem?_set_ne (Ne.symm hne)]; exact hb
    · intro r' i off v hv
      unfold gPurge
      by_cases hne : r' = r
      · simp [hne, Rep]
      · simp only [if_neg hne]
        simp only [Rep] at hv ⊢
        obtain ⟨b, sz, n, hb, hs, rfl⟩ := hv
        refine ⟨b, sz, n, ?_, ?_, rfl⟩
        · show (bl.set r q)[r']? = _
          rw [List.getElem?_set_ne (Ne.symm hne)]; exact hb
        · show rowShape ((hp.map _).set r o') r' = _
          rw [rowShape_set_ne hne, rowShape_map]; exact hs
  refine ⟨h.ext hsub (by simp [h.len]) (by simp) ?_ ?_ ?_ hsz (fun b hb hn => ?_) hos ht hout ?_, hsub⟩
  · intro r1 r2 b h1 h2
    by_cases e1 : r1 = r <;> by_cases e2 : r2 = r
    · omega
    · subst e1
      rw [List.getElem?_set_self hrl] at h1
      rw [List.getElem?_set_ne (Ne.symm e2)] at h2
      simp only [Option.some.injEq] at h1
      rcases (hq b h1).2 with h3 | h3
      · exact h.inj _ _ b h3 h2
      · exact absurd (h.at_ r2 b h2).1 (Nat.not_lt.mpr h3)
    · subst e2
      rw [List.getElem?_set_self hrl] at h2
      rw [List.getElem?_set_ne (Ne.symm e1)] at h1
      simp only [Option.some.injEq] at h2
      rcases (hq b h2).2 with h3 | h3
      · exact h.inj _ _ b h1 h3
      · exact absurd (h.at_ r1 b h1).1 (Nat.not_lt.mpr h3)
    · rw [List.getElem?_set_ne (Ne.symm e1)] at h1
      rw [List.getElem?_set_ne (Ne.symm e2)] at h2
      exact h.inj _ _ b h1 h2
  · intro r1 b h1
    by_cases e1 : r1 = r
    · subst e1
      rw [List.getElem?_set_self hrl] at h1
      simp only [Option.some.injEq] at h1
      obtain ⟨h2, h3⟩ := hq b h1
      refine ⟨h2, ?_⟩
      rcases h3 with h3 | h3
      · exact (h.at_ r1 b h3).2
      · exact .inr (Nat.le_trans h.le h3)
    · rw [List.getElem?_set_ne (Ne.symm e1)] at h1
      have := h.at_ r1 b h1
      exact ⟨Nat.lt_of_lt_of_le this.1 hsz, this.2⟩
  · intro r1 o1 h1
    by_cases e1 : r1 = r
    · subst e1
      left
      rw [List.getElem?_set_self (by simp; rw [← h.len]; exact hrl)] at h1
      simp only [Option.some.injEq] at h1
      subst h1
      rw [List.getElem?_set_self hrl]
      exact ho hsub
    · right
      rw [List.getElem?_set_ne (Ne.symm e1), List.getElem?_map] at h1
      cases h2 : hp[r1]? with
      | none => simp [h2] at h1
      | some o2 =>
        simp only [h2, Option.map_some, Option.some.injEq] at h1
        refine ⟨r1, o2, h2, h1.symm, by rw [List.getElem?_set_ne (Ne.symm e1)], fun k hk => ?_⟩
        rw [Option.join_eq_some_iff] at hk
        obtain ⟨h3, h4⟩ := hother r1 k e1 hk
        exact hw k h3 h4
  · refine hw b (Nat.lt_of_lt_of_le hb h.le) fun hb' => ?_
    rcases (h.at_ r b hb').2 with h1 | h1
    · exact hn h1
    · exact absurd hb (Nat.not_lt.mpr h1)
  · intro j o1 o2 hj hf hj2 hf2
    by_cases e1 : j = r
    · subst e1
      rw [hr] at hj2
      simp only [Option.some.injEq] at hj2
      subst hj2
      obtain ⟨h1, h2⟩ := hfix hf2
      rw [List.getElem?_set_self hrl, List.getElem?_set_self (by simp; rw [← h.len]; exact hrl)]
      exact ⟨h1, o', rfl, h2⟩
    · rw [List.getElem?_set_ne (Ne.symm e1), List.getElem?_set_ne (Ne.symm e1), List.getElem?_map, hj2]
      refine ⟨rfl, _, rfl, ?_⟩
      cases o2 <;> simp_all [AO.sub, AO.fixed]

/-- An object's contents turn, its shape stays. -/
theorem HSim.same {I : Inp} {w w' : World} {bl : List (Option Nat)} {hp : List AO} (h : HSim I w bl hp) (r k : Nat) (o' : AO) (hk : bl[r]? = some (some k))
    (hw : ∀ b, b ≠ k → w'.heap[b]? = w.heap[b]?) (hsz : w'.heap.size = w.heap.size) (hbs : blockSize w k ≤ blockSize w' k)
    (hos : w'.os = w.os) (ht : w'.tape = w.tape) (hout : w'.output = w.output)
    (hsh : ∀ x, rowShape hp r = some x → rowShape (hp.set r o') r = some x) (hfix : ∀ o, hp[r]? = some o → o.fixed = true → o'.fixed = true)
    (ho : EnvLe (I.env w bl hp) (I.env w' bl (hp.set r o')) → ORep (I.env w' bl (hp.set r o')) (some k) o') :
    HSim I w' bl (hp.set r o') ∧ EnvLe (I.env w bl hp) (I.env w' bl (hp.set r o')) := by
  have hsub : EnvLe (I.env w bl hp) (I.env w' bl (hp.set r o')) := by
    refine ⟨fun b hb hlt => ⟨hb, hw b fun e => ?_⟩, fun r b hb => hb, fun r' x hx => ?_, fun r' b hb => ?_⟩
    · subst e; exact hb.2 (List.mem_of_getElem? hk)
    · show rowShape (hp.set r o') r' = _
      by_cases e : r' = r
      · subst e; exact hsh x hx
      · rw [rowShape_set_ne e]; exact hx
    · show blockSize w b ≤ blockSize w' b
      by_cases e : b = k
      · subst e; exact hbs
      · unfold blockSize; rw [hw b e]; exact Nat.le_refl _
  refine ⟨h.ext hsub.subOk (by simp [h.len]) (by simp) h.inj (fun r b hb => by rw [hsz]; exact h.at_ r b hb) ?_ (by omega) (fun b hb hn => hw b fun e => ?_) hos ht hout ?_, hsub⟩
  · intro r1 o1 h1
    by_cases e1 : r1 = r
    · subst e1
      left
      have hrl : r1 < hp.length := by rw [← h.len]; exact (List.getElem?_eq_some_iff.mp hk).1
      rw [List.getElem?_set_self hrl] at h1
      simp only [Option.some.injEq] at h1
      subst h1
      rw [hk]
      exact ho hsub
    · right
      rw [List.getElem?_set_ne (Ne.symm e1)] at h1
      refine ⟨r1, o1, h1, ?_, rfl, fun q hq => hw q fun e => ?_⟩
      · cases o1 <;> simp [AO.sub, AV.subL_id, AV.sub_id]
      · subst e
        rw [Option.join_eq_some_iff] at hq
        exact e1 (h.inj _ _ _ hq hk)
  · subst e
    rcases (h.at_ r b hk).2 with h1 | h1
    · exact hn h1
    · exact absurd hb (Nat.not_lt.mpr h1)
  · intro j o1 o2 hj hf hj2 hf2
    refine ⟨rfl, ?_⟩
    by_cases e1 : j = r
    · subst e1
      rw [List.getElem?_set_self (List.getElem?_eq_some_iff.mp hj2).1]
      exact ⟨o', rfl, hfix o2 hj2 hf2⟩
    · rw [List.getElem?_set_ne (Ne.symm e1)]
      exact ⟨o2, hj2, hf2⟩

/-- A new own list without memory yet. -/
theorem HSim.ghostOf {I : Inp} {w : World} {bl : List (Option Nat)} {hp : List AO} (h : HSim I w bl hp) (o : AO) (ho : ∀ E, ORep E none o) :
    HSim I w (bl ++ [none]) (hp ++ [o]) ∧ EnvLe (I.env w bl hp) (I.env w (bl ++ [none]) (hp ++ [o])) := by
  have hback : ∀ (r b : Nat), (bl ++ [none])[r]? = some (some b) → bl[r]? = some (some b) := fun r b h1 => by
    rcases getElem?_append_some h1 with h1 | ⟨_, h1⟩
    · exact h1
    · cases h1
  have hle : EnvLe (I.env w bl hp) (I.env w (bl ++ [none]) (hp ++ [o])) := by
    refine ⟨fun b hb hlt => ⟨⟨hb.1, fun hm => ?_⟩, rfl⟩, fun r b hr => ?_, fun r x hx => rowShape_append hx, fun r b hr => Nat.le_refl _⟩
    · rcases List.mem_append.mp hm with hm | hm
      · exact hb.2 hm
      · simp at hm
    · have hlt : r < bl.length := (List.getElem?_eq_some_iff.mp hr).1
      show (bl ++ [none])[r]? = _
      rw [List.getElem?_append_left hlt]; exact hr
  refine ⟨h.ext hle.subOk (by simp [h.len]) (by simp) (fun r r' b h1 h2 => h.inj r r' b (hback _ _ h1) (hback _ _ h2)) (fun r b h1 => h.at_ r b (hback _ _ h1)) ?_ (Nat.le_refl _) (fun _ _ _ => rfl) rfl rfl rfl ?_, hle⟩
  · intro r o' hr
    rcases getElem?_append_some hr with h1 | ⟨h1, h1'⟩
    · right
      have hlt : r < bl.length := by rw [h.len]; exact (List.getElem?_eq_some_iff.mp h1).1
      refine ⟨r, o', h1, ?_, by rw [List.getElem?_append_left hlt], fun _ _ => rfl⟩
      cases o' <;> simp [AO.sub, AV.subL_id, AV.sub_id]
    · left
      subst h1'
      have : (bl ++ [none])[r]?.join = none := by
        subst h1
        rw [← h.len]; simp
      rw [this]
      exact ho _
  · intro j o' o1 hj hf hj1 hf1
    have h1 := (List.getElem?_eq_some_iff.mp hj1).1
    have h3 := h.len
    rw [List.getElem?_append_left (by omega), List.getElem?_append_left h1]
    exact ⟨rfl, o1, hj1, hf1⟩

theorem HSim.ghost {I : Inp} {w : World} {bl : List (Option Nat)} {hp : List AO} (h : HSim I w bl hp) (t : Ty) :
    HSim I w (bl ++ [none]) (hp ++ [.row t []]) ∧ EnvLe (I.env w bl hp) (I.env w (bl ++ [none]) (hp ++ [.row t []])) :=
  h.ghostOf (.row t []) fun _ => .inl ⟨rfl, rfl⟩

/-! ### freezing -/

theorem killObjs_get (rs : List Nat) : ∀ (hp : List AO) (i j : Nat), (killObjs rs i hp)[j]? = (hp[j]?).map fun o => match o with
    | .row t l => if rs.contains (i + j) then .dead else .row t l
    | o => o
  | [], i, j => by simp [killObjs]
  | o :: hp, i, 0 => by cases o <;> simp [killObjs]
  | o :: hp, i, j + 1 => by
    have ih := killObjs_get rs hp (i + 1) j
    have e : i + 1 + j = i + (j + 1) := by omega
    rw [e] at ih
    cases o <;> simpa [killObjs] using ih

theorem killObjs_length (rs : List Nat) : ∀ (hp : List AO) (i : Nat), (killObjs rs i hp).length = hp.length
  | [], i => by simp [killObjs]
  | o :: hp, i => by cases o <;> simp [killObjs, killObjs_length rs hp (i + 1)]

/-- A part of a row, as a list for good. -/
theorem list_of_row {E : Env} {t : Ty} {l : List t.T} {vs : Array Value} {e : TypeId} {b lo len cap : Nat} (hok : E.ok b) (hb : E.w.heap[b]? = some (.cells vs e (0, 0)))
    (hrow : RowIs E.w E.ok t l vs.toList) (hlen : lo + len ≤ l.length) (hcap : len ≤ cap) (l' : List t.T) (hl' : l' = (l.take (lo + len)).drop lo) :
    RepT E.w E.ok (.list t) l' [.slice (some ⟨b, lo * t.size, none⟩) len cap] := by
  have hll : l'.length = len := by rw [hl']; simp; omega
  simp only [RepT]
  refine ⟨_, cap, by rw [hll], by omega, fun i hi => ?_⟩
  have hi' : lo + i < l.length := by omega
  have h1 := hrow.2 (lo + i) hi'
  refine ⟨_, (vs.toList.drop ((lo + i) * t.size)).take t.size, rfl, rfl, hok, ?_, ?_, ?_⟩
  · exact h1.length
  · intro j hj
    have hlj : j < t.size := by rw [h1.length] at hj; exact hj
    have h2 := mul_le_of_lt (s := t.size) hi'
    have h3 := hrow.1
    have h4 : lo * t.size + i * t.size + j < vs.size := by
      rw [Nat.add_mul] at h2
      have : vs.toList.length = vs.size := by simp
      omega
    simp only [World.cell?, hb, Option.isSome_none, Bool.false_eq_true, if_false]
    rw [Array.getElem?_eq_getElem h4]
    congr 1
    simp only [List.getElem_take, List.getElem_drop, Array.getElem_toList, Nat.add_mul]
  · have : l'[i] = l[lo + i] := by subst hl'; simp
    rw [this]; exact h1

theorem blFreeze_get (rs : List Nat) (hp : List AO) (bl : List (Option Nat)) (j : Nat) :
    (bl.mapIdx fun i b => if rs.contains i && isRow hp i then none else b)[j]? = (bl[j]?).map fun b => if rs.contains j && isRow hp j then none else b := by
  simp [List.getElem?_mapIdx]

theorem nil_of_row {E : Env} (t : Ty) (ad : Option Addr) : RepT E.w E.ok (.list t) [] [.slice ad 0 0] := by
  simp only [RepT]
  exact ⟨ad, 0, by simp, Nat.le_refl _, fun i hi => by simp at hi⟩

/-- Where objects lie when some rows are frozen (or lent). -/
def blBor (hp : List AO) (bor : List Nat) (bl : List (Option Nat)) : List (Option Nat) := bl.mapIdx fun i b => if bor.contains i && isRow hp i then none else b

theorem HSim.freeze' {I : Inp} {w : World} {bl : List (Option Nat)} {hp : List AO} (h : HSim I w bl hp) (rs : List Nat) :
    HSim I w (blBor hp rs bl) (killObjs rs 0 (hp.map (AO.sub (gFreeze hp rs)))) ∧ SubOk (I.env w bl hp) (I.env w (blBor hp rs bl) (killObjs rs 0 (hp.map (AO.sub (gFreeze hp rs))))) (gFreeze hp rs) := by
  unfold blBor
  have hback : ∀ (r b : Nat), (bl.mapIdx fun i b => if rs.contains i && isRow hp i then none else b)[r]? = some (some b) → bl[r]? = some (some b) ∧ (rs.contains r && isRow hp r) = false := by
    intro r b h1
    rw [blFreeze_get] at h1
    cases h2 : bl[r]? with
    | none => simp [h2] at h1
    | some q =>
      rw [h2] at h1
      simp only [Option.map_some, Option.some.injEq] at h1
      split at h1
      · cases h1
      · rename_i hn; subst h1; exact ⟨rfl, by simpa using hn⟩
  have hkeep : ∀ (r : Nat) (q : Option Nat), (rs.contains r && isRow hp r) = false → bl[r]? = some q → (bl.mapIdx fun i b => if rs.contains i && isRow hp i then none else b)[r]? = some q := by
    intro r q h1 h2
    rw [blFreeze_get, h2]
    simp only [Option.map_some, h1, Bool.false_eq_true, if_false]
  have hsh : ∀ (r : Nat), (rs.contains r && isRow hp r) = false → rowShape (killObjs rs 0 (hp.map (AO.sub (gFreeze hp rs)))) r = rowShape hp r := by
    intro r h1
    have e := killObjs_get rs (hp.map (AO.sub (gFreeze hp rs))) 0 r
    unfold rowShape
    rw [e, List.getElem?_map]
    cases h2 : hp[r]? with
    | none => rfl
    | some o =>
      cases o with
      | row t l =>
        have : rs.contains r = false := by simpa [isRow, h2] using h1
        simp only [Option.map_some, AO.sub, Nat.zero_add, this, Bool.false_eq_true, if_false]
      | _ => rfl
  have hok : OkLe w (I.ok bl) w (I.ok (bl.mapIdx fun i b => if rs.contains i && isRow hp i then none else b)) := fun b hb _ =>
    ⟨⟨hb.1, fun hm => by obtain ⟨j, hj⟩ := mem_bl hm; exact hb.2 (List.mem_of_getElem? (hback j b hj).1)⟩, rfl⟩
  have hsub : SubOk (I.env w bl hp) (I.env w (bl.mapIdx fun i b => if rs.contains i && isRow hp i then none else b) (killObjs rs 0 (hp.map (AO.sub (gFreeze hp rs))))) (gFreeze hp rs) := by
    refine ⟨hok, ?_, ?_, ?_⟩
    · intro r lo hi v hv
      simp only [gFreeze]
      by_cases hc : (rs.contains r && isRow hp r) = true
      · simp only [hc, if_true]
        unfold rowList
        split
        · rename_i t l hr
          simp only [Rep] at hv ⊢
          obtain ⟨sz, n, h1, h2, h3, ad, cap, h4, h5, h6⟩ := hv
          have h1' : rowShape hp r = some (sz, n) := h1
          simp only [rowShape, hr, Option.some.injEq, Prod.mk.injEq] at h1'
          obtain ⟨rfl, rfl⟩ := h1'
          have el : part l lo hi = (l.take (lo + (hi.getD l.length - lo))).drop lo := by
            cases hi with
            | none => simp only [Option.getD_none, part] at h2 ⊢; rw [show lo + (l.length - lo) = l.length by omega, List.take_length]
            | some q => simp only [Option.getD_some, part] at h2 ⊢; rw [show lo + (q - lo) = q by omega]
          refine ⟨?_, by simp⟩
          rw [el]
          rcases h6 with h6 | ⟨b, hb, ha, hs⟩
          · subst h6
            have h7 : hi.getD l.length - lo = 0 := by omega
            rw [h4, h7]
            have : (l.take (lo + 0)).drop lo = [] := by apply List.drop_eq_nil_of_le; simp; omega
            rw [this]
            exact nil_of_row (E := I.env w (bl.mapIdx fun i b => if rs.contains i && isRow hp i then none else b) (killObjs rs 0 (hp.map (AO.sub (gFreeze hp rs))))) t ad
          · have hb' : bl[r]? = some (some b) := hb
            have hobj := h.obj r _ hr
            rw [hb'] at hobj
            rcases hobj with ⟨h8, _⟩ | ⟨k, vs, e, h8, h9, h10⟩
            · cases h8
            · simp only [Option.join_some, Option.some.injEq] at h8
              subst h8
              rw [h4, ha]
              refine list_of_row (vs := vs) (e := e) (l := l) (E := I.env w (bl.mapIdx fun i b => if rs.contains i && isRow hp i then none else b) (killObjs rs 0 (hp.map (AO.sub (gFreeze hp rs))))) ⟨?_, fun hm => ?_⟩ h9 (h10.mono hok) (by omega) h5 _ rfl
              · rcases (h.at_ r b hb').2 with h11 | h11
                · exact .inr (.inl h11)
                · exact .inr (.inr h11)
              · obtain ⟨j, hj⟩ := mem_bl hm
                obtain ⟨h12, h13⟩ := hback j b hj
                have := h.inj j r b h12 hb'
                subst this
                rw [hc] at h13; cases h13
        · simp [Rep]
      · have hc' : (rs.contains r && isRow hp r) = false := by simpa using hc
        simp only [hc', Bool.false_eq_true, if_false]
        simp only [Rep] at hv ⊢
        obtain ⟨sz, n, h1, h2, h3, ad, cap, h4, h5, h6⟩ := hv
        refine ⟨sz, n, (hsh r hc').trans h1, h2, h3, ad, cap, h4, h5, ?_⟩
        rcases h6 with h6 | ⟨b, hb, ha, hs⟩
        · exact .inl h6
        · exact .inr ⟨b, hkeep r _ hc' hb, ha, hs⟩
    · intro r off v hv
      simp only [gFreeze]
      by_cases hc : (rs.contains r && isRow hp r) = true
      · simp only [hc, if_true, Rep]
      · have hc' : (rs.contains r && isRow hp r) = false := by simpa using hc
        simp only [hc', Bool.false_eq_true, if_false]
        simp only [Rep] at hv ⊢
        obtain ⟨b, hb, rfl⟩ := hv
        exact ⟨b, hkeep r _ hc' hb, rfl⟩
    · intro r i off v hv
      simp only [gFreeze]
      by_cases hc : (rs.contains r && isRow hp r) = true
      · simp only [hc, if_true, Rep]
      · have hc' : (rs.contains r && isRow hp r) = false := by simpa using hc
        simp only [hc', Bool.false_eq_true, if_false]
        simp only [Rep] at hv ⊢
        obtain ⟨b, sz, n, hb, hs, rfl⟩ := hv
        exact ⟨b, sz, n, hkeep r _ hc' hb, (hsh r hc').trans hs, rfl⟩
  refine ⟨h.ext hsub (by simp [killObjs_length, h.len]) (by simp [killObjs_length]) (fun r r' b h1 h2 => h.inj r r' b (hback _ _ h1).1 (hback _ _ h2).1) (fun r b h1 => h.at_ r b (hback _ _ h1).1) ?_ (Nat.le_refl _) (fun _ _ _ => rfl) rfl rfl rfl ?_, hsub⟩
  · intro r o hr
    have e := killObjs_get rs (hp.map (AO.sub (gFreeze hp rs))) 0 r
    rw [hr, List.getElem?_map] at e
    cases h2 : hp[r]? with
    | none => simp [h2] at e
    | some o0 =>
      rw [h2] at e
      by_cases hc : (rs.contains r && isRow hp r) = true
      · left
        cases o0 with
        | row t l =>
          have : rs.contains r = true := by simp only [Bool.and_eq_true] at hc; exact hc.1
          simp only [Option.map_some, AO.sub, Nat.zero_add, this, if_true, Option.some.injEq] at e
          subst e
          trivial
        | _ => simp [isRow, h2] at hc
      · right
        have hc' : (rs.contains r && isRow hp r) = false := by simpa using hc
        have hlt : r < bl.length := by rw [h.len]; exact (List.getElem?_eq_some_iff.mp h2).1
        refine ⟨r, o0, h2, ?_, ?_, fun _ _ => rfl⟩
        · cases o0 with
          | row t l =>
            have : rs.contains r = false := by simpa [isRow, h2] using hc'
            simp only [Option.map_some, AO.sub, Nat.zero_add, this, Bool.false_eq_true, if_false, Option.some.injEq] at e
            subst e; rfl
          | _ =>
            simp only [Option.map_some, AO.sub, Option.some.injEq] at e
            subst e; rfl
        · rw [blFreeze_get, List.getElem?_eq_getElem hlt]
          simp only [Option.map_some, hc', Bool.false_eq_true, if_false]
  · intro j o o1 hj hf hj1 hf1
    have e := killObjs_get rs (hp.map (AO.sub (gFreeze hp rs))) 0 j
    rw [List.getElem?_map, hj1] at e
    have hlt : j < bl.length := by rw [h.len]; exact (List.getElem?_eq_some_iff.mp hj1).1
    cases o1 with
    | row t l => simp [AO.fixed] at hf1
    | dead => simp [AO.fixed] at hf1
    | box cs =>
      have hc' : isRow hp j = false := by simp [isRow, hj1]
      refine ⟨?_, _, e, rfl⟩
      rw [blFreeze_get, List.getElem?_eq_getElem hlt]
      simp [hc']
    | arr t l =>
      have hc' : isRow hp j = false := by simp [isRow, hj1]
      refine ⟨?_, _, e, rfl⟩
      rw [blFreeze_get, List.getElem?_eq_getElem hlt]
      simp [hc']
    | bld T v =>
      have hc' : isRow hp j = false := by simp [isRow, hj1]
      refine ⟨?_, _, e, rfl⟩
      rw [blFreeze_get, List.getElem?_eq_getElem hlt]
      simp [hc']
    | buf e l => simp [AO.fixed] at hf1

theorem HSim.freeze {I : Inp} {w : World} {bl : List (Option Nat)} {hp : List AO} (h : HSim I w bl hp) (rs : List Nat) :
    ∃ bl', HSim I w bl' (killObjs rs 0 (hp.map (AO.sub (gFreeze hp rs)))) ∧ SubOk (I.env w bl hp) (I.env w bl' (killObjs rs 0 (hp.map (AO.sub (gFreeze hp rs))))) (gFreeze hp rs) := ⟨_, h.freeze' rs⟩

theorem Sim.freeze {I : Inp} {w : World} {bl : List (Option Nat)} {s : St} {tmps : List Value} (h : Sim I w bl s tmps) (rs : List Nat) :
    ∃ bl', Sim I w bl' (s.freeze rs) tmps ∧ SubOk (I.env w bl s.hp) (I.env w bl' (s.freeze rs).hp) (gFreeze s.hp rs) := by
  obtain ⟨bl', h1, h2⟩ := h.h.freeze rs
  exact ⟨bl', ⟨h1, RepL.sub h2 _ _ h.tm, h.m⟩, h2⟩

end Go.Cellar

/- Each operation, over the invariant: what the abstract machine says of it, the machine does. No condition. -/
set_option linter.unusedVariables false
set_option linter.unusedSimpArgs false
namespace Go.Cellar
open Go

/-- What an effect comes to. -/
def Eff.gives : Eff → AV → St → Prop
  | .val v s, v', s' => v = v' ∧ s = s'
  | .need p v s, v', s' => p ∧ v = v' ∧ s = s'
  | .ask b v1 v2 s, v', s' => v' = (match b with | true => v1 | false => v2) ∧ s = s'
  | _, _, _ => False

/-- The machine's operation yields a value (or is done with). -/
def Yields' (r : Result Next) (val : Value) (w' : World) : Prop := r = .ok (.value val) w' ∨ (r = .ok .skip w' ∧ val = undef)

def EffOk (I : Inp) (w : World) (bl : List (Option Nat)) (tmps : List Value) (r : Result Next) (e : Eff) : Prop :=
  ∀ v s', e.gives v s' → ∃ val w' bl', Yields' r val w' ∧ Sim I w' bl' s' tmps ∧ Rep (I.env w' bl' s'.hp) v val

section
variable {P : Program} {I : Inp} {w : World} {bl : List (Option Nat)} {s : St} {tmps : List Value}

theorem EffOk.fail {r : Result Next} : EffOk I w bl tmps r .fail := fun _ _ h => h.elim

theorem EffOk.same {r : Result Next} {v : AV} {val : Value} (h : Sim I w bl s tmps) (hr : r = .ok (.value val) w) (hv : Rep (I.env w bl s.hp) v val) : EffOk I w bl tmps r (.val v s) := by
  rintro v' s' ⟨rfl, rfl⟩
  exact ⟨val, w, bl, .inl hr, h, hv⟩

theorem EffOk.needs {r : Result Next} {p : Prop} {v : AV} {val : Value} (h : Sim I w bl s tmps) (hr : p → r = .ok (.value val) w ∧ Rep (I.env w bl s.hp) v val) : EffOk I w bl tmps r (.need p v s) := by
  rintro v' s' ⟨hp, rfl, rfl⟩
  exact ⟨val, w, bl, .inl (hr hp).1, h, (hr hp).2⟩

theorem EffOk.need {r : Result Next} {p : Prop} {v : AV} {s1 : St} (hr : p → EffOk I w bl tmps r (.val v s1)) : EffOk I w bl tmps r (.need p v s1) := by
  rintro v' s' ⟨hp, rfl, rfl⟩
  exact hr hp _ _ ⟨rfl, rfl⟩

def runV (P : Program) (x : Sem Value) (w : World) : Result Next := Sem.run P (do pure (Next.value (← x))) w
theorem runV_ok {x : Sem Value} {v : Value} {w w' : World} (h : x.run P w = .ok v w') : runV P x w = .ok (.value v) w' := by
  simp [runV, h]

theorem ba_toList (b : ByteArray) : b.toList = b.data.toList := ByteArray.toList_eq b

theorem ba_size (l : List UInt8) : (⟨l.toArray⟩ : ByteArray).size = l.length := by
  show l.toArray.size = _
  simp

theorem ba_append (a b : List UInt8) : (⟨a.toArray⟩ : ByteArray) ++ ⟨b.toArray⟩ = ⟨(a ++ b).toArray⟩ := by
  apply ByteArray.ext
  simp

theorem eqGuard_other (op : BinOp) (t : TypeId) (x y : Operand) (a b : Value) (w : World) (h : (op ≠ .eql ∧ op ≠ .neq) ∨ ((∀ cs, a ≠ .agg cs) ∧ a ≠ .nilIface)) : (eqGuard op t x y a b).run P w = .ok () w := by
  unfold eqGuard
  rcases h with ⟨h1, h2⟩ | ⟨h1, h2⟩
  · cases op <;> first | (exact absurd rfl h1) | (exact absurd rfl h2) | rfl
  · cases op <;> first | rfl | (cases a <;> first | rfl | (exact absurd rfl h2) | (exact absurd rfl (h1 _)))

theorem aBin_int {op : BinOp} {t : TypeId} {k k' : IntKind} {a b : Int} (h : Sim I w bl s tmps) (xo yo : Operand) :
    EffOk I w bl tmps (runV P (do eqGuard op t xo yo (.int k a) (.int k' b); binOp op t (.int k a) (.int k' b)) w) (aBinInt op k a k' b s) := by
  have hg : ∀ w, (eqGuard op t xo yo (.int k a) (.int k' b)).run P w = .ok () w := fun w => eqGuard_other op t xo yo _ _ w (.inr ⟨fun _ => by simp, by simp⟩)
  by_cases hs : op = .shl ∨ op = .shr
  · rcases hs with rfl | rfl
    · simp only [aBinInt]
      refine EffOk.needs h fun hb => ⟨runV_ok ?_, rfl⟩
      have : ¬ b < 0 := by omega
      simp [hg, binOp, Op.shift, this]
    · simp only [aBinInt]
      refine EffOk.needs h fun hb => ⟨runV_ok ?_, rfl⟩
      have : ¬ b < 0 := by omega
      simp [hg, binOp, Op.shift, this]
  · have h1 : op ≠ .shl := fun e => hs (.inl e)
    have h2 : op ≠ .shr := fun e => hs (.inr e)
    by_cases hk : k = k'
    · subst hk
      cases op <;> simp only [aBinInt, if_true, ne_eq] <;> first
        | exact absurd rfl h1
        | exact absurd rfl h2
        | (refine EffOk.needs h fun hb => ⟨runV_ok ?_, rfl⟩; simp [hg, binOp, Op.intDiv, hb])
        | (refine EffOk.same h (runV_ok ?_) rfl; simp [hg, binOp, Op.intArith, Op.intBits, Op.intCmp]; done)
        | (refine EffOk.same h (runV_ok ?_) rfl; simp [hg, binOp, Op.intArith, Op.intBits, Op.intCmp]; rfl)
        | exact EffOk.fail
    · cases op <;> simp only [aBinInt, if_neg hk] <;> first
        | exact absurd rfl h1
        | exact absurd rfl h2
        | exact EffOk.fail

theorem aBin_str {op : BinOp} {t : TypeId} {a b : List UInt8} (h : Sim I w bl s tmps) (xo yo : Operand) :
    EffOk I w bl tmps (runV P (do eqGuard op t xo yo (.string ⟨a.toArray⟩) (.string ⟨b.toArray⟩); binOp op t (.string ⟨a.toArray⟩) (.string ⟨b.toArray⟩)) w) (aBinStr op a b s) := by
  have hg : ∀ w, (eqGuard op t xo yo (.string ⟨a.toArray⟩) (.string ⟨b.toArray⟩)).run P w = .ok () w := fun w => eqGuard_other op t xo yo _ _ w (.inr ⟨fun _ => by simp, by simp⟩)
  have e : (a == b) = decide (a = b) := by rw [Bool.eq_iff_iff]; simp
  cases op <;> simp only [aBinStr] <;> first
    | exact EffOk.fail
    | (refine EffOk.same h (runV_ok ?_) rfl; simp [hg, binOp, Op.stringOp, e]; done)
    | skip
  refine EffOk.needs h fun hb => ⟨runV_ok (v := .string ⟨(a ++ b).toArray⟩) ?_, rfl⟩
  have : ¬ ((9223372036854775807 : Int) < (a.length : Int) + (b.length : Int)) := by omega
  simp [hg, binOp, Op.stringOp, ba_size, this, IntKind.max, ba_append, IntKind.signed, IntKind.bits]

theorem isBoolT_some {t : TypeId} (h : isBoolT P t = true) : P.underlying t = some .bool := by
  unfold isBoolT at h
  split at h
  · assumption
  · cases h

theorem aBin_bool {op : BinOp} {t : TypeId} {a b : Bool} (h : Sim I w bl s tmps) (xo yo : Operand) :
    EffOk I w bl tmps (runV P (do eqGuard op t xo yo (.bool a) (.bool b); binOp op t (.bool a) (.bool b)) w) (aBinBool P op t a b s) := by
  have hg : ∀ w, (eqGuard op t xo yo (.bool a) (.bool b)).run P w = .ok () w := fun w => eqGuard_other op t xo yo _ _ w (.inr ⟨fun _ => by simp, by simp⟩)
  cases op <;> simp only [aBinBool] <;> first
    | exact EffOk.fail
    | skip
  all_goals
    split
    · rename_i hb
      have hu := isBoolT_some hb
      refine EffOk.same h (runV_ok ?_) rfl
      have he := run_equalIn_bool' (P := P) w 9999 t a b hu
      simp only [Sem.run_bind, hg, Result.andThen_ok, binOp, Op.equal, Op.maxDepth, he, Sem.run_pure]
      cases a <;> cases b <;> rfl
    · exact EffOk.fail

theorem info_of_fits {t : TypeId} (h : fitsT P t = true) : ∃ d i, P.underlying t = some d ∧ P.info? t = some i ∧ (isAggT P t = true ∨ (isAggT P t = false ∧ sizeT P t = 1)) := by
  simp only [fitsT, Bool.and_eq_true, Option.isSome_iff_exists, Bool.or_eq_true, beq_iff_eq] at h
  obtain ⟨⟨⟨d, h1⟩, i, h2⟩, h3⟩ := h
  refine ⟨d, i, h1, h2, ?_⟩
  cases h4 : isAggT P t
  · simp only [h4, Bool.false_eq_true, false_or] at h3; exact .inr ⟨rfl, h3⟩
  · exact .inl rfl

theorem run_isAgg {t : TypeId} {d : TypeDesc} (h : P.underlying t = some d) (w : World) : (isAgg t).run P w = .ok (isAggT P t) w := by
  simp only [isAgg, Sem.run_bind, run_underlying h, Result.andThen_ok, isAggT, h]
  cases d <;> rfl

theorem run_sizeOf' {t : TypeId} {i : TypeInfo} (h : P.info? t = some i) (w : World) : (sizeOf t).run P w = .ok (sizeT P t) w := by
  simp [sizeOf, typeInfo, h, sizeT]

theorem run_zeroValue {t : TypeId} {i : TypeInfo} {z : Value} (h : P.info? t = some i) (hz : i.zero = some z) (w : World) : (zeroValue t).run P w = .ok z w := by
  simp [zeroValue, typeInfo, h, hz]

/-- The value that cells of a type make. -/
def valOf (P : Program) (t : TypeId) (vs : List Value) : Value := if isAggT P t = true then .agg vs.toArray else vs.headD undef

theorem run_part {t : TypeId} (h : fitsT P t = true) (cs : Array Value) (off : Nat) (hl : off + sizeT P t ≤ cs.size) (w : World) :
    (Go.part t cs off).run P w = .ok (valOf P t ((cs.toList.drop off).take (sizeT P t))) w := by
  obtain ⟨d, i, h1, h2, h3⟩ := info_of_fits h
  simp only [Go.part, Sem.run_bind, run_isAgg h1, Result.andThen_ok]
  rcases h3 with h3 | ⟨h3, h4⟩
  · simp only [h3, if_true, Sem.run_bind, run_sizeOf' h2, Result.andThen_ok, Sem.run_pure, valOf]
    congr 2
    apply Array.ext'
    simp [Array.toList_extract, List.extract, Nat.add_sub_cancel_left]
  · have hlt : off < cs.size := by omega
    have e : (cs.toList.drop off).take 1 = [cs[off]] := by
      rw [List.take_one, List.head?_drop]
      simp [hlt]
    simp only [h3, h4, valOf, e, Bool.false_eq_true, if_false, List.headD_cons]
    simp [hlt]

theorem mkVal_rep {E : Env} {t : TypeId} (h : fitsT P t = true) {cs : List AV} {vs : List Value} (hr : RepL E cs vs) (hl : vs.length = sizeT P t) : Rep E (mkVal P t cs) (valOf P t vs) := by
  obtain ⟨d, i, h1, h2, h3⟩ := info_of_fits h
  unfold mkVal valOf
  rcases h3 with h3 | ⟨h3, h4⟩
  · simp only [h3, if_true, Rep]
    exact ⟨_, rfl, by simpa using hr⟩
  · simp only [h3, Bool.false_eq_true, if_false]
    rw [h4] at hl
    match vs, cs, hl, hr with
    | [v], [c], _, hr => simp only [RepL] at hr; obtain ⟨u, us, h5, h6, h7⟩ := hr; simp only [List.cons.injEq] at h5; obtain ⟨rfl, _⟩ := h5; exact h6
    | [v], [], _, hr => simp [RepL] at hr
    | [v], c :: d :: cs, _, hr => simp only [RepL] at hr; obtain ⟨u, us, h5, h6, q, qs, h7, _⟩ := hr; simp only [List.cons.injEq] at h5; obtain ⟨rfl, rfl⟩ := h5; simp at h7

theorem RepL.nil_inv {E : Env} {vs : List Value} (h : RepL E [] vs) : vs = [] := by simpa only [RepL] using h
theorem RepL.one_inv {E : Env} {a : AV} {vs : List Value} (h : RepL E [a] vs) : ∃ v, vs = [v] ∧ Rep E a v := by
  simp only [RepL] at h
  obtain ⟨v, vs', rfl, h1, rfl⟩ := h
  exact ⟨v, rfl, h1⟩

theorem beq_dec {α : Type} [DecidableEq α] [BEq α] [LawfulBEq α] (a b : α) : (a == b) = decide (a = b) := by
  rw [Bool.eq_iff_iff]; simp

theorem eqT_both {E : Env} (w : World) : ∀ (n : Nat),
    (∀ (t : TypeId) (xs ys : List AV) (r : Bool), eqT P n t xs ys = some r → ∀ d, n ≤ d → ∀ xv yv : List Value, RepL E xs xv → RepL E ys yv →
      (Op.equalIn d t (valOf P t xv) (valOf P t yv)).run P w = .ok r w) ∧
    (∀ (fs : List Field) (xs ys : List AV) (r : Bool), eqT.go P n fs xs ys = some r → ∀ d, n ≤ d → ∀ xv yv : List Value, RepL E xs xv → RepL E ys yv →
      (Op.eqFields d xv.toArray yv.toArray fs).run P w = .ok r w) := by
  intro n
  induction n with
  | zero => exact ⟨fun t xs ys r h => by simp [eqT] at h, fun fs xs ys r h => by simp [eqT.go] at h⟩
  | succ n ih =>
    obtain ⟨ih1, ih2⟩ := ih
    constructor
    · intro t xs ys r h d hd xv yv hx hy
      obtain ⟨d, rfl⟩ : ∃ d', d = d' + 1 := ⟨d - 1, by omega⟩
      unfold eqT at h
      split at h
      · rename_i a b hu
        obtain ⟨va, rfl, ha⟩ := hx.one_inv
        obtain ⟨vb, rfl, hb⟩ := hy.one_inv
        simp only [Rep] at ha hb
        subst ha hb
        have hag : isAggT P t = false := by simp [isAggT, hu]
        simp only [valOf, hag, Bool.false_eq_true, if_false, List.headD_cons]
        rw [run_equalIn_bool' _ _ _ _ _ hu]
        simp only [Option.some.injEq] at h
        rw [← h, beq_dec]
      · rename_i k0 k a k' b hu
        obtain ⟨va, rfl, ha⟩ := hx.one_inv
        obtain ⟨vb, rfl, hb⟩ := hy.one_inv
        simp only [Rep] at ha hb
        subst ha hb
        split at h
        · rename_i hk; subst hk
          have hag : isAggT P t = false := by simp [isAggT, hu]
          simp only [valOf, hag, Bool.false_eq_true, if_false, List.headD_cons]
          rw [run_equalIn_int _ _ _ _ _ _ _ hu]
          simp only [Option.some.injEq] at h
          rw [← h, beq_dec]
        · cases h
      · rename_i a b hu
        obtain ⟨va, rfl, ha⟩ := hx.one_inv
        obtain ⟨vb, rfl, hb⟩ := hy.one_inv
        simp only [Rep] at ha hb
        subst ha hb
        have hag : isAggT P t = false := by simp [isAggT, hu]
        simp only [valOf, hag, Bool.false_eq_true, if_false, List.headD_cons]
        rw [run_equalIn_string _ _ _ _ _ hu]
        simp only [Option.some.injEq] at h
        rw [← h]
        simp only [ByteArray.toList_mk]
        rw [beq_dec]
      · rename_i fs hu
        split at h
        · cases h
        · rename_i hst
          have hag : isAggT P t = true := by simp [isAggT, hu]
          simp only [valOf, hag, if_true]
          have hf : P.fieldsOf t = fs := by simp [Program.fieldsOf, hu]
          rw [run_equalIn_agg _ _ _ _ _ (by rw [hf]; exact hu) (by simpa using hst), hf]
          exact ih2 fs.toList _ _ r h d (by omega) xv yv hx hy
      · cases h
    · intro fs xs ys r h d hd xv yv hx hy
      cases fs with
      | nil =>
        simp only [eqT.go, Option.some.injEq] at h
        subst h
        simp [Op.eqFields]
      | cons f fs =>
        simp only [eqT.go] at h
        split at h
        · rename_i hn
          simp only [Op.eqFields, hn, ne_eq, not_true, if_false]
          exact ih2 fs xs ys r h d (by omega) xv yv hx hy
        · rename_i hn
          split at h
          · rename_i hc
            obtain ⟨hc1, hc2, hc3⟩ := hc
            have hlx := hx.length
            have hly := hy.length
            have p1 := run_part (P := P) hc3 xv.toArray f.offset (by simp; omega) w
            have p2 := run_part (P := P) hc3 yv.toArray f.offset (by simp; omega) w
            simp only [] at p1 p2
            split at h
            · cases h
            · rename_i r1 he
              have h1 := ih1 f.type _ _ r1 he d (by omega) _ _ ((hx.drop f.offset).take (sizeT P f.type)) ((hy.drop f.offset).take (sizeT P f.type))
              simp only [Op.eqFields, ne_eq, hn, not_false_eq_true, if_true, Sem.run_bind, p1, p2, Result.andThen_ok, h1, Sem.run_ite, Sem.run_pure]
              split at h
              · simp only [Option.some.injEq] at h
                subst h
                cases r1 <;> simp [Op.eqFields]
              · cases hq : eqT.go P n fs xs ys with
                | none => simp [hq] at h
                | some q =>
                  simp only [hq, Option.map_some, Option.some.injEq] at h
                  subst h
                  have h2 := ih2 fs xs ys q hq d (by omega) xv yv hx hy
                  cases r1
                  · simp
                  · simp [h2]
          · cases h

theorem isStructT_some {t : TypeId} (h : isStructT P t = true) : ∃ fs, P.underlying t = some (.struct fs) := by
  unfold isStructT at h
  split at h
  · exact ⟨_, by assumption⟩
  · cases h

theorem aBin_agg {op : BinOp} {t : TypeId} {a b : List AV} {x y : Array Value} (h : Sim I w bl s tmps) (hx : RepL (I.env w bl s.hp) a x.toList) (hy : RepL (I.env w bl s.hp) b y.toList) (xo yo : Operand) :
    EffOk I w bl tmps (runV P (do eqGuard op t xo yo (.agg x) (.agg y); binOp op t (.agg x) (.agg y)) w) (aBinAgg P op t a b s) := by
  have hval : ∀ fs, P.underlying t = some (.struct fs) → ∀ z : Array Value, valOf P t z.toList = .agg z := fun fs hu z => by simp [valOf, isAggT, hu]
  cases op <;> simp only [aBinAgg] <;> first
    | exact EffOk.fail
    | skip
  all_goals
    split
    · rename_i hb
      obtain ⟨fs, hu⟩ := isStructT_some hb.1
      split
      · rename_i r hr
        have he := (eqT_both (P := P) w 40).1 t a b r hr 10000 (by omega) _ _ hx hy
        rw [hval fs hu, hval fs hu] at he
        refine EffOk.same h (runV_ok ?_) rfl
        simp only [Sem.run_bind, run_eqGuard_agg (hm := hb.2), Result.andThen_ok, run_eql_struct, run_neq_struct, he]
      · exact EffOk.fail
    · exact EffOk.fail

theorem isSliceT_some {t : TypeId} (h : isSliceT P t = true) : ∃ e, P.underlying t = some (.slice e) := by
  unfold isSliceT at h
  split at h
  · exact ⟨_, by assumption⟩
  · cases h
theorem isPtrT_some {t : TypeId} (h : isPtrT P t = true) : ∃ e, P.underlying t = some (.pointer e) := by
  unfold isPtrT at h
  split at h
  · exact ⟨_, by assumption⟩
  · cases h
theorem isFuncT_some {t : TypeId} (h : isFuncT P t = true) : ∃ a b c, P.underlying t = some (.func a b c) := by
  unfold isFuncT at h
  split at h
  · exact ⟨_, _, _, by assumption⟩
  · cases h

theorem aNilEq_ok {op : BinOp} {t : TypeId} {xv yv : Value} {ok b : Bool} (h : Sim I w bl s tmps) (xo yo : Operand) (hg : ∀ w, (eqGuard op t xo yo xv yv).run P w = .ok () w)
    (h1 : binOp .eql t xv yv = do pure (.bool (← Op.equal t xv yv))) (h2 : binOp .neq t xv yv = do pure (.bool (!(← Op.equal t xv yv)))) (he : ok = true → ∀ w, (Op.equal t xv yv).run P w = .ok b w) :
    EffOk I w bl tmps (runV P (do eqGuard op t xo yo xv yv; binOp op t xv yv) w) (aNilEq ok op b s) := by
  unfold aNilEq
  split
  · refine EffOk.same h (runV_ok ?_) rfl
    simp only [Sem.run_bind, hg, Result.andThen_ok, h1, he rfl, Sem.run_pure]
  · refine EffOk.same h (runV_ok ?_) rfl
    simp only [Sem.run_bind, hg, Result.andThen_ok, h2, he rfl, Sem.run_pure]
  · exact EffOk.fail

theorem equal_slice_nil (t : TypeId) (a : Option Addr) (l c : Nat) (hok : isSliceT P t = true) (w : World) : (Op.equal t (.slice a l c) (.slice none 0 0)).run P w = .ok a.isNone w := by
  obtain ⟨e, hu⟩ := isSliceT_some hok
  exact run_equal_slice_nil w t e a l c hu

theorem eqIn_ptr_nil (d : Nat) (t e : TypeId) (a : Option Addr) (hu : P.underlying t = some (.pointer e)) (w : World) : (Op.equalIn (d + 1) t (.pointer a) (.pointer none)).run P w = .ok a.isNone w := by
  cases a <;> simp [Op.equalIn, run_underlying hu]

theorem equal_ptr_nil (t : TypeId) (a : Option Addr) (hok : isPtrT P t = true) (w : World) : (Op.equal t (.pointer a) (.pointer none)).run P w = .ok a.isNone w := by
  obtain ⟨e, hu⟩ := isPtrT_some hok
  exact eqIn_ptr_nil 9999 t e a hu w

theorem eqIn_func_nil (d : Nat) (t : TypeId) (ps rs : Array TypeId) (vd : Bool) (hu : P.underlying t = some (.func ps rs vd)) (w : World) :
    (Op.equalIn (d + 1) t .nilFunc .nilFunc).run P w = .ok true w ∧ ∀ f a b, (Op.equalIn (d + 1) t (.func f a b) .nilFunc).run P w = .ok false w := by
  constructor
  · simp [Op.equalIn, run_underlying hu]
  · intro f a b; simp [Op.equalIn, run_underlying hu]

theorem equal_nil_nil (t : TypeId) (hok : isFuncT P t = true) (w : World) : (Op.equal t .nilFunc .nilFunc).run P w = .ok true w := by
  obtain ⟨a, b, c, hu⟩ := isFuncT_some hok
  exact (eqIn_func_nil 9999 t a b c hu w).1
theorem equal_func_nil (t : TypeId) (f : Fn) (fs cs : Array Value) (hok : isFuncT P t = true) (w : World) : (Op.equal t (.func f fs cs) .nilFunc).run P w = .ok false w := by
  obtain ⟨a, b, c, hu⟩ := isFuncT_some hok
  exact (eqIn_func_nil 9999 t a b c hu w).2 f fs cs

/-- '==', '+' and their like. -/
theorem aBin_ok {op : BinOp} {t : TypeId} {x y : AV} {xv yv : Value} (h : Sim I w bl s tmps) (hx : Rep (I.env w bl s.hp) x xv) (hy : Rep (I.env w bl s.hp) y yv) (xo yo : Operand) :
    EffOk I w bl tmps (runV P (do eqGuard op t xo yo xv yv; binOp op t xv yv) w) (aBin P op t x y s) := by
  unfold aBin
  split
  · simp only [Rep] at hx hy; subst hx hy; exact aBin_int h xo yo
  · simp only [Rep] at hx hy; subst hx hy; exact aBin_str h xo yo
  · simp only [Rep] at hx hy; subst hx hy; exact aBin_bool h xo yo
  · simp only [Rep] at hx hy; obtain ⟨xs, rfl, hx⟩ := hx; obtain ⟨ys, rfl, hy⟩ := hy; exact aBin_agg h hx hy xo yo
  · rename_i ty l f
    simp only [Rep] at hx hy
    subst hy
    obtain ⟨hl, _⟩ := hx
    simp only [RepT] at hl
    obtain ⟨ad, cap, hv, _, hi⟩ := hl
    simp only [List.cons.injEq, and_true] at hv
    subst hv
    unfold aListNil
    split
    · rename_i hok
      rintro v' s' ⟨rfl, rfl⟩
      refine ⟨.bool ad.isNone, w, bl, .inl (runV_ok ?_), h, ?_⟩
      · have hg : (eqGuard .eql t xo yo (.slice ad l.length cap) (.slice none 0 0)).run P w = .ok () w := eqGuard_other _ _ _ _ _ _ w (.inr ⟨fun _ => by simp, by simp⟩)
        simp only [Sem.run_bind, hg, Result.andThen_ok, binOp, equal_slice_nil t ad l.length cap hok, Sem.run_pure]
      · simp only [Rep]
        refine ⟨_, rfl, fun hn => ?_⟩
        cases l with
        | nil => rfl
        | cons x l =>
          obtain ⟨a, cs, ha, _⟩ := hi 0 (by simp)
          rw [ha] at hn
          simp at hn
    · exact EffOk.fail
  · simp only [Rep] at hx hy; subst hx hy
    exact aNilEq_ok h xo yo (fun w => eqGuard_other _ _ _ _ _ _ w (.inr ⟨fun _ => by simp, by simp⟩)) rfl rfl (fun hok w => equal_slice_nil t none 0 0 hok w)
  · simp only [Rep] at hx hy; subst hx hy
    exact aNilEq_ok h xo yo (fun w => eqGuard_other _ _ _ _ _ _ w (.inr ⟨fun _ => by simp, by simp⟩)) rfl rfl (fun hok w => equal_ptr_nil t none hok w)
  · simp only [Rep] at hx hy; subst hy; obtain ⟨b, _, rfl⟩ := hx
    exact aNilEq_ok h xo yo (fun w => eqGuard_other _ _ _ _ _ _ w (.inr ⟨fun _ => by simp, by simp⟩)) rfl rfl (fun hok w => equal_ptr_nil t _ hok w)
  · simp only [Rep] at hx hy; subst hy; obtain ⟨b, sz, n, _, _, rfl⟩ := hx
    exact aNilEq_ok h xo yo (fun w => eqGuard_other _ _ _ _ _ _ w (.inr ⟨fun _ => by simp, by simp⟩)) rfl rfl (fun hok w => equal_ptr_nil t _ hok w)
  · simp only [Rep] at hx hy; subst hx hy
    exact aNilEq_ok h xo yo (fun w => eqGuard_other _ _ _ _ _ _ w (.inr ⟨fun _ => by simp, by simp⟩)) rfl rfl (fun hok w => equal_nil_nil t hok w)
  · simp only [Rep] at hx hy; subst hy; obtain ⟨fs, cs, rfl, _, _⟩ := hx
    exact aNilEq_ok h xo yo (fun w => eqGuard_other _ _ _ _ _ _ w (.inr ⟨fun _ => by simp, by simp⟩)) rfl rfl (fun hok w => equal_func_nil t _ _ _ hok w)
  · exact EffOk.fail

theorem aUn_ok {op : UnOp} {x : AV} {xv : Value} (h : Sim I w bl s tmps) (hx : Rep (I.env w bl s.hp) x xv) : EffOk I w bl tmps (runV P (Op.unary op xv) w) (aUn op x s) := by
  unfold aUn
  split
  · simp only [Rep] at hx; subst hx; exact EffOk.same h (runV_ok rfl) rfl
  · simp only [Rep] at hx; subst hx; exact EffOk.same h (runV_ok rfl) rfl
  · simp only [Rep] at hx; subst hx; exact EffOk.same h (runV_ok rfl) rfl
  · exact EffOk.fail

end
end Go.Cellar

/- The operations on memory, over the invariant. No condition. -/
set_option linter.unusedVariables false
set_option linter.unusedSimpArgs false
namespace Go.Cellar
open Go

section
variable {P : Program} {I : Inp} {w : World} {bl : List (Option Nat)} {s : St} {tmps : List Value}

theorem sizeT_info {t : TypeId} (h : sizeT P t ≠ 0) : ∃ i, P.info? t = some i ∧ i.size = sizeT P t := by
  unfold sizeT at h ⊢
  cases hi : P.info? t with
  | none => simp [hi] at h
  | some i => exact ⟨i, rfl, by simp⟩

theorem addr_add (b o n : Nat) : (⟨b, o, none⟩ : Addr).add n = ⟨b, o + n, none⟩ := by
  unfold Addr.add
  split <;> simp_all

theorem addr_eta {a : Addr} (h : a.spot = none) : a = ⟨a.block, a.off, none⟩ := by
  cases a; simp_all

theorem run_loadCells_at {w : World} {b off : Nat} {vs : List Value} (h : CellsAt w b off vs) : (loadCells ⟨b, off, none⟩ vs.length).run P w = .ok vs.toArray w :=
  run_loadCells_list (P := P) w ⟨b, off, none⟩ vs fun j v hv => by
    obtain ⟨hj, rfl⟩ := List.getElem?_eq_some_iff.mp hv
    rw [addr_add]; exact h j hj

theorem run_loadVar' {t : TypeId} (hf : fitsT P t = true) {b off : Nat} {vs : List Value} (h : CellsAt w b off vs) (hl : vs.length = sizeT P t) :
    (loadVar t ⟨b, off, none⟩).run P w = .ok (valOf P t vs) w := by
  obtain ⟨d, i, h1, h2, h3⟩ := info_of_fits hf
  simp only [loadVar, Sem.run_bind, run_isAgg h1, Result.andThen_ok]
  rcases h3 with h3 | ⟨h3, h4⟩
  · simp only [h3, if_true, Sem.run_bind, run_sizeOf' h2, Result.andThen_ok, valOf]
    rw [← hl, run_loadCells_at h]
    simp
  · rw [h4] at hl
    match vs, hl with
    | [v], _ =>
      have := h 0 (by simp)
      simp only [Nat.add_zero, List.getElem_cons_zero] at this
      simp [h3, valOf, this]

theorem CellsAt.sub {w : World} {b off : Nat} {vs : List Value} (h : CellsAt w b off vs) (k n : Nat) : CellsAt w b (off + k) ((vs.drop k).take n) := by
  intro j hj
  have hj' : k + j < vs.length := by simp at hj; omega
  have := h (k + j) hj'
  rw [Nat.add_assoc, this]
  simp

theorem cellsAt_block {w : World} {b : Nat} {vs : Array Value} {e : TypeId} {fz : Nat × Nat} (h : w.heap[b]? = some (.cells vs e fz)) : CellsAt w b 0 vs.toList := by
  intro j hj
  rw [Nat.zero_add]
  simp only [World.cell?, h, Option.isSome_none, Bool.false_eq_true, if_false]
  simp at hj
  simp [hj]

theorem ofConst1_rep {E : Env} (v : Value) : Rep E (ofConst1 v) v := by
  unfold ofConst1
  split <;> simp [Rep]

theorem dfltOk_ok {w : World} {ok : Nat → Prop} : ∀ (t : Ty) (vs r : List Value), dfltOk t vs = some r → ∃ a, vs = a ++ r ∧ RepT w ok t t.dflt a
  | .int k, vs, r, h => by
    unfold dfltOk dfltInt at h
    split at h
    · split at h
      · rename_i hc
        obtain ⟨rfl, rfl⟩ := hc
        simp only [Option.some.injEq] at h
        subst h
        exact ⟨[_], rfl, by simp [RepT, Ty.dflt]⟩
      · cases h
    · cases h
  | .bool, vs, r, h => by
    unfold dfltOk dfltBool at h
    split at h
    · split at h
      · cases h
      · simp only [Option.some.injEq] at h
        subst h
        exact ⟨[_], rfl, by simp [RepT, Ty.dflt]⟩
    · cases h
  | .str, vs, r, h => by
    unfold dfltOk dfltStr at h
    split at h
    · split at h
      · rename_i x r' hb
        simp only [Option.some.injEq] at h
        subst h
        refine ⟨[_], rfl, ?_⟩
        have : x.data = #[] := by
          rw [List.isEmpty_iff] at hb
          apply Array.ext'
          simpa using hb
        simp only [RepT, Ty.dflt, List.cons.injEq, Value.string.injEq, and_true]
        apply ByteArray.ext
        simpa using this
      · cases h
    · cases h
  | .list t, vs, r, h => by
    unfold dfltOk dfltList at h
    split at h
    · simp only [Option.some.injEq] at h
      subst h
      refine ⟨[_], rfl, ?_⟩
      simp only [RepT, Ty.dflt]
      exact ⟨none, 0, by simp, Nat.le_refl _, fun i hi => by simp at hi⟩
    · cases h
  | .prod a b, vs, r, h => by
    unfold dfltOk at h
    split at h
    · rename_i r1 h1
      obtain ⟨va, rfl, ha⟩ := dfltOk_ok a vs r1 h1
      obtain ⟨vb, rfl, hb⟩ := dfltOk_ok b r1 r h
      exact ⟨va ++ vb, by simp, by simp only [RepT, Ty.dflt]; exact ⟨va, vb, rfl, ha, hb⟩⟩
    · cases h
  | .one a, vs, r, h => by
    unfold dfltOk at h
    obtain ⟨va, rfl, ha⟩ := dfltOk_ok a vs r h
    exact ⟨va, rfl, by simp only [RepT, Ty.dflt]; exact ha⟩

theorem dfltsOk_ok {w : World} {ok : Nat → Prop} (t : Ty) : ∀ (n : Nat) (vs : List Value), dfltsOk t n vs = true → RowIs w ok t (List.replicate n t.dflt) vs
  | 0, vs, h => by simpa using RowIs.nil w ok t vs
  | n + 1, vs, h => by
    unfold dfltsOk at h
    split at h
    · rename_i r hr
      obtain ⟨a, rfl, ha⟩ := dfltOk_ok (w := w) (ok := ok) t vs r hr
      have h1 := dfltsOk_ok (w := w) (ok := ok) t n r h
      have h2 : RowIs w ok t [t.dflt] a := ⟨by simp [ha.length], fun i hi => by
        have : i = 0 := by simp at hi; omega
        subst this
        simpa [← ha.length] using ha⟩
      have := h2.append h1 (by simp [ha.length])
      simpa [List.replicate_succ] using this
    · cases h

theorem run_newVar (t : TypeId) (v : Value) : (newVar t v).run P w = .ok ⟨w.heap.size, 0, none⟩ (w.alloc (.cells v.cells t)) := by
  simp [newVar, newRow]

theorem Sim.alloc (h : Sim I w bl s tmps) (c : Obj) (o : AO)
    (ho : EnvLe (I.env w bl s.hp) (I.env (w.alloc c) (bl ++ [some w.heap.size]) (s.hp ++ [o])) → ORep (I.env (w.alloc c) (bl ++ [some w.heap.size]) (s.hp ++ [o])) (some w.heap.size) o) :
    Sim I (w.alloc c) (bl ++ [some w.heap.size]) ⟨s.tm, s.hp ++ [o], s.m⟩ tmps ∧ EnvLe (I.env w bl s.hp) (I.env (w.alloc c) (bl ++ [some w.heap.size]) (s.hp ++ [o])) := by
  obtain ⟨h1, h2⟩ := h.h.alloc c o ho
  exact ⟨⟨h1, RepL.mono h2 h.tm, h.m⟩, h2⟩

theorem Sim.len (h : Sim I w bl s tmps) : bl.length = s.hp.length := h.h.len

theorem aAlloc_box {t : TypeId} (h : Sim I w bl s tmps) (hrun : ∀ z i, P.info? t = some i → i.zero = some z → runV P (Instr.alloc t true (.tuple #[])) w = .ok (.value (.pointer (some ⟨w.heap.size, 0, none⟩))) (w.alloc (.cells z.cells t)))
    (hptr : bl.length = s.hp.length → (bl ++ [some w.heap.size])[s.hp.length]? = some (some w.heap.size)) : EffOk I w bl tmps (runV P (Instr.alloc t true (.tuple #[])) w) (match zeroCells1 P t with
    | some cs => .val (.ptr s.hp.length 0) ⟨s.tm, s.hp ++ [.box cs], s.m⟩
    | none => .fail) := by
  split
  · rename_i cs hcs
    unfold zeroCells1 at hcs
    split at hcs
    · rename_i i hi
      split at hcs
      · rename_i z hz
        simp only [Option.some.injEq] at hcs
        subst hcs
        rintro v s' ⟨rfl, rfl⟩
        obtain ⟨h1, h2⟩ := h.alloc (.cells z.cells t) (.box (z.cells.toList.map ofConst1)) fun _ => ⟨_, z.cells, t, rfl, heap_alloc_new, by
          have := RepL.map (E := I.env (w.alloc (.cells z.cells t)) (bl ++ [some w.heap.size]) (s.hp ++ [.box (z.cells.toList.map ofConst1)])) ofConst1 (fun v => v) (fun v => ofConst1_rep v) z.cells.toList
          simpa using this⟩
        exact ⟨_, _, _, .inl (hrun z i hi hz), h1, w.heap.size, hptr h.len, rfl⟩
      · cases hcs
    · cases hcs
  · exact EffOk.fail

theorem aAlloc_ok {t : TypeId} (h : Sim I w bl s tmps) : EffOk I w bl tmps (runV P (Instr.alloc t true (.tuple #[])) w) (aAlloc P t s) := by
  have hrun : ∀ z i, P.info? t = some i → i.zero = some z → runV P (Instr.alloc t true (.tuple #[])) w = .ok (.value (.pointer (some ⟨w.heap.size, 0, none⟩))) (w.alloc (.cells z.cells t)) := fun z i hi hz => by
    apply runV_ok
    simp [Instr.alloc, run_zeroValue hi hz, run_newVar]
  have hptr : bl.length = s.hp.length → (bl ++ [some w.heap.size])[s.hp.length]? = some (some w.heap.size) := fun hl => by rw [← hl]; simp
  unfold aAlloc
  split
  · rename_i n e hu
    split
    · rename_i ty hty
      split
      · rename_i hc
        obtain ⟨hc1, hc2, hc3⟩ := hc
        unfold zeroArr at hc3
        split at hc3
        · rename_i i hi
          split at hc3
          · rename_i z hz
            rintro v s' ⟨rfl, rfl⟩
            obtain ⟨h1, h2⟩ := h.alloc (.cells z.cells t) (.arr ty (List.replicate n ty.dflt)) fun _ => ⟨_, z.cells, t, rfl, heap_alloc_new, dfltsOk_ok ty n _ hc3⟩
            exact ⟨_, _, _, .inl (hrun z i hi hz), h1, w.heap.size, hptr h.len, rfl⟩
          · cases hc3
        · cases hc3
      · exact EffOk.fail
    · exact EffOk.fail
  · rename_i fs hu
    split
    · rename_i e hb
      unfold bldOf at hb
      split at hb
      · rename_i fa fb
        split at hb
        · split at hb
          · rename_i e' i hu2 hi
            split at hb
            · rename_i z hz
              split at hb
              · rename_i hcells
                simp only [Option.some.injEq] at hb
                subst hb
                have hc : z.cells = #[.pointer none, .slice none 0 0] := by
                  apply Array.toList_inj.mp
                  rw [hcells]
                rintro v s' ⟨rfl, rfl⟩
                obtain ⟨g1, g2⟩ := h.h.ghostOf (.buf e' []) fun _ => .inl ⟨rfl, rfl⟩
                have hlen : (bl ++ [none]).length = s.hp.length + 1 := by simp [h.h.len]
                obtain ⟨q1, q2⟩ := g1.alloc (.cells z.cells t) (.bld t (.view s.hp.length 0 none)) fun _ => by
                  refine ⟨_, .pointer none, .slice none 0 0, rfl, by rw [hc]; exact heap_alloc_new, .inl rfl, ?_, fun _ _ _ => rfl⟩
                  simp only [Rep]
                  refine ⟨1, 0, ?_, Nat.le_refl _, Nat.le_refl _, none, 0, rfl, Nat.le_refl _, .inl rfl⟩
                  show rowShape (s.hp ++ [AO.buf e' []] ++ [_]) s.hp.length = _
                  unfold rowShape
                  simp
                have hst : s.hp ++ [AO.buf e' []] ++ [AO.bld t (.view s.hp.length 0 none)] = s.hp ++ [AO.buf e' [], AO.bld t (.view s.hp.length 0 none)] := by simp
                rw [hst] at q1 q2
                refine ⟨_, _, _, .inl (hrun z i hi hz), ⟨q1, RepL.mono q2 (RepL.mono g2 h.tm), h.m⟩, w.heap.size, ?_, rfl⟩
                show ((bl ++ [none]) ++ [some w.heap.size])[s.hp.length + 1]? = _
                rw [← hlen]; simp
              · cases hb
            · cases hb
          · cases hb
        · cases hb
      · cases hb
    · exact aAlloc_box h hrun hptr
  · exact aAlloc_box h hrun hptr

theorem aBox_ok {t : TypeId} {x : AV} {xv : Value} (h : Sim I w bl s tmps) (hx : Rep (I.env w bl s.hp) x xv) : EffOk I w bl tmps (runV P (Instr.box t xv) w) (aBox x s) := by
  unfold aBox
  split
  · exact EffOk.fail
  · rename_i hs
    rintro v s' ⟨rfl, rfl⟩
    have hs' : x.solid = true := by simpa using hs
    obtain ⟨h1, h2⟩ := h.alloc (.cells xv.cells t) (.box x.cells) fun hle => ⟨_, xv.cells, t, rfl, heap_alloc_new, RepL.mono hle (Rep.cells hs' hx)⟩
    refine ⟨_, _, _, .inl (runV_ok (by simp [Instr.box, run_newVar])), h1, w.heap.size, ?_, rfl⟩
    show (bl ++ [some w.heap.size])[s.hp.length]? = _
    rw [← h.len]; simp

theorem ok_ptr {r : Nat} {off : Nat} {av : Value} {cs : List AV} (h : Sim I w bl s tmps) (ha : Rep (I.env w bl s.hp) (.ptr r off) av) (hr : s.hp[r]? = some (.box cs)) :
    ∃ k vs e, bl[r]? = some (some k) ∧ av = .pointer (some ⟨k, off, none⟩) ∧ w.heap[k]? = some (.cells vs e (0, 0)) ∧ RepL (I.env w bl s.hp) cs vs.toList := by
  simp only [Rep] at ha
  obtain ⟨b, hb, rfl⟩ := ha
  have hb' : bl[r]? = some (some b) := hb
  have ho := h.h.obj r _ hr
  rw [hb'] at ho
  obtain ⟨k, vs, e, h1, h2, h3⟩ := ho
  simp only [Option.join_some, Option.some.injEq] at h1
  subst h1
  exact ⟨b, vs, e, hb', rfl, h2, h3⟩

theorem ok_rptr {r i off : Nat} {av : Value} {t : Ty} {l : List t.T} (h : Sim I w bl s tmps) (ha : Rep (I.env w bl s.hp) (.rptr r i off) av) (hr : s.hp[r]? = some (.row t l) ∨ s.hp[r]? = some (.arr t l)) :
    ∃ k vs e, bl[r]? = some (some k) ∧ av = .pointer (some ⟨k, i * t.size + off, none⟩) ∧ w.heap[k]? = some (.cells vs e (0, 0)) ∧ RowIs w (I.ok bl) t l vs.toList := by
  simp only [Rep] at ha
  obtain ⟨b, sz, n, hb, hs, rfl⟩ := ha
  have hb' : bl[r]? = some (some b) := hb
  have hs' : rowShape s.hp r = some (sz, n) := hs
  rcases hr with hr | hr
  · simp only [rowShape, hr, Option.some.injEq, Prod.mk.injEq] at hs'
    obtain ⟨rfl, rfl⟩ := hs'
    have ho := h.h.obj r _ hr
    rw [hb'] at ho
    rcases ho with ⟨h1, _⟩ | ⟨k, vs, e, h1, h2, h3⟩
    · cases h1
    · simp only [Option.join_some, Option.some.injEq] at h1
      subst h1
      exact ⟨b, vs, e, hb', rfl, h2, h3⟩
  · simp only [rowShape, hr, Option.some.injEq, Prod.mk.injEq] at hs'
    obtain ⟨rfl, rfl⟩ := hs'
    have ho := h.h.obj r _ hr
    rw [hb'] at ho
    obtain ⟨k, vs, e, h1, h2, h3⟩ := ho
    simp only [Option.join_some, Option.some.injEq] at h1
    subst h1
    exact ⟨b, vs, e, hb', rfl, h2, h3⟩

/-- A row's element, as cells in memory. -/
theorem row_cells {k : Nat} {vs : Array Value} {e : TypeId} {t : Ty} {l : List t.T} {ok : Nat → Prop} (hk : w.heap[k]? = some (.cells vs e (0, 0))) (hrow : RowIs w ok t l vs.toList) {i : Nat} (hi : i < l.length) :
    ∃ cs : List Value, cs.length = t.size ∧ CellsAt w k (i * t.size) cs ∧ RepT w ok t l[i] cs ∧ cs = (vs.toList.drop (i * t.size)).take t.size := by
  refine ⟨_, (hrow.2 i hi).length, ?_, hrow.2 i hi, rfl⟩
  have := (cellsAt_block hk).sub (i * t.size) t.size
  simpa using this

theorem aLoad_row {t : TypeId} {r i off : Nat} {av : Value} {ty : Ty} {l : List ty.T} (h : Sim I w bl s tmps) (ha : Rep (I.env w bl s.hp) (.rptr r i off) av) (hr : s.hp[r]? = some (.row ty l) ∨ s.hp[r]? = some (.arr ty l))
    (hc : off + sizeT P t ≤ ty.size) (hf : fitsT P t = true) :
    EffOk I w bl tmps (runV P (Instr.loadAt t av) w) (.need (i < l.length) (mkVal P t (((ty.cells (l.getD i ty.dflt)).drop off).take (sizeT P t))) s) := by
  refine EffOk.need fun hi => ?_
  obtain ⟨k, vs, e, hb, rfl, hk, hrow⟩ := ok_rptr h ha hr
  obtain ⟨cs, hl, hcs, hrep, _⟩ := row_cells hk hrow hi
  have hd : l.getD i ty.dflt = l[i] := by simp [List.getD_eq_getElem?_getD, hi]
  rw [hd]
  have hl2 : ((cs.drop off).take (sizeT P t)).length = sizeT P t := by simp; omega
  refine EffOk.same h (runV_ok (v := valOf P t ((cs.drop off).take (sizeT P t))) ?_) (mkVal_rep hf (((RepT.toL (E := I.env w bl s.hp) ty _ _ hrep).drop off).take _) hl2)
  simp only [Instr.loadAt, Instr.sureAddr, Sem.run_bind, Sem.run_pure, Result.andThen_ok]
  exact run_loadVar' hf (hcs.sub off _) hl2

theorem aLoad_ok {t : TypeId} {a : AV} {av : Value} (h : Sim I w bl s tmps) (ha : Rep (I.env w bl s.hp) a av) : EffOk I w bl tmps (runV P (Instr.loadAt t av) w) (aLoad P t a s) := by
  unfold aLoad
  split
  · rename_i r off
    split
    · rename_i cs hr
      split
      · rename_i hc
        obtain ⟨k, vs, e, hb, rfl, hk, hrep⟩ := ok_ptr h ha hr
        have hl := hrep.length
        have hl2 : ((vs.toList.drop off).take (sizeT P t)).length = sizeT P t := by simp at hl ⊢; omega
        refine EffOk.same h (runV_ok (v := valOf P t ((vs.toList.drop off).take (sizeT P t))) ?_) (mkVal_rep hc.2 ((hrep.drop off).take _) hl2)
        simp only [Instr.loadAt, Instr.sureAddr, Sem.run_bind, Sem.run_pure, Result.andThen_ok]
        refine run_loadVar' hc.2 ?_ hl2
        have := (cellsAt_block hk).sub off (sizeT P t)
        simpa using this
      · exact EffOk.fail
    · exact EffOk.fail
  · rename_i cs
    split
    · rename_i hc
      simp only [Rep] at ha
      obtain ⟨a, vs, rfl, h1, h2, h3, h4, h5⟩ := ha
      have hl := h5.length
      have hl2 : (vs.take (sizeT P t)).length = sizeT P t := by simp; omega
      refine EffOk.same h (runV_ok (v := valOf P t (vs.take (sizeT P t))) ?_) (mkVal_rep hc.2 (h5.take _) hl2)
      simp only [Instr.loadAt, Instr.sureAddr, Sem.run_bind, Sem.run_pure, Result.andThen_ok]
      rw [addr_eta h1]
      refine run_loadVar' hc.2 ?_ hl2
      have h6 : CellsAt w a.block (a.off + 0) ((vs.drop 0).take (sizeT P t)) := CellsAt.sub h3 0 (sizeT P t)
      simpa using h6
    · exact EffOk.fail
  · split
    · rename_i hr
      split
      · rename_i hc; exact aLoad_row h ha (.inl hr) hc.1 hc.2
      · exact EffOk.fail
    · rename_i hr
      split
      · rename_i hc; exact aLoad_row h ha (.inr hr) hc.1 hc.2
      · exact EffOk.fail
    · exact EffOk.fail
  · exact EffOk.fail

end
end Go.Cellar
