/- Plain data as cells and values; own lists; the heap's part of the invariant. No condition. -/
import Derived.Test.YtlhpgbaclbkjiaaDoorAbs2
namespace Go.Cellar
open Go

theorem Ty.cells_length : ∀ (t : Ty) (x : t.T), (t.cells x).length = t.size
  | .int _, _ => by simp [Ty.cells, Ty.size]
  | .bool, _ => by simp [Ty.cells, Ty.size]
  | .str, _ => by simp [Ty.cells, Ty.size]
  | .list _, _ => by simp [Ty.cells, Ty.size]
  | .prod a b, x => by simp [Ty.cells, Ty.size, Ty.cells_length a, Ty.cells_length b]
  | .one a, x => by simp [Ty.cells, Ty.size, Ty.cells_length a]

/-- Data in cells, as abstract cells. -/
theorem RepT.toL {E : Env} : ∀ (t : Ty) (x : t.T) (vs : List Value), RepT E.w E.ok t x vs → RepL E (t.cells x) vs
  | .int _, _, _, h => by simp only [RepT] at h; subst h; exact RepL.single (by simp [Rep])
  | .bool, _, _, h => by simp only [RepT] at h; subst h; exact RepL.single (by simp [Rep])
  | .str, _, _, h => by simp only [RepT] at h; subst h; exact RepL.single (by simp [Rep])
  | .list t, l, vs, h => by
    have h' := h
    simp only [RepT] at h'
    obtain ⟨ad, cap, rfl, _⟩ := h'
    simp only [Ty.cells]
    exact RepL.single (by simp only [Rep]; exact ⟨h, by simp⟩)
  | .prod a b, x, vs, h => by
    simp only [RepT] at h
    obtain ⟨va, vb, rfl, ha, hb⟩ := h
    exact RepL.append (RepT.toL a _ _ ha) (RepT.toL b _ _ hb)
  | .one a, x, vs, h => by simp only [RepT] at h; exact RepT.toL a _ _ h

/-- Abstract cells read as data. -/
theorem RepL.take_of {E : Env} : ∀ (t : Ty) (cs : List AV) (vs : List Value) (x : t.T) (r : List AV), t.take cs = some (x, r) → RepL E cs vs →
    ∃ va vb, vs = va ++ vb ∧ RepT E.w E.ok t x va ∧ RepL E r vb
  | .int k, cs, vs, x, r, ht, h => by
    unfold Ty.take takeInt at ht
    split at ht
    · split at ht
      · rename_i hk; subst hk
        simp only [Option.some.injEq, Prod.mk.injEq] at ht
        obtain ⟨rfl, rfl⟩ := ht
        simp only [RepL, Rep] at h
        obtain ⟨v, vs', rfl, rfl, h2⟩ := h
        exact ⟨[_], vs', rfl, by simp [RepT], h2⟩
      · simp at ht
    · simp at ht
  | .bool, cs, vs, x, r, ht, h => by
    unfold Ty.take takeBool at ht
    split at ht
    · simp only [Option.some.injEq, Prod.mk.injEq] at ht
      obtain ⟨rfl, rfl⟩ := ht
      simp only [RepL, Rep] at h
      obtain ⟨v, vs', rfl, rfl, h2⟩ := h
      exact ⟨[_], vs', rfl, by simp [RepT], h2⟩
    · simp at ht
  | .str, cs, vs, x, r, ht, h => by
    unfold Ty.take takeStr at ht
    split at ht
    · simp only [Option.some.injEq, Prod.mk.injEq] at ht
      obtain ⟨rfl, rfl⟩ := ht
      simp only [RepL, Rep] at h
      obtain ⟨v, vs', rfl, rfl, h2⟩ := h
      exact ⟨[_], vs', rfl, by simp [RepT], h2⟩
    · simp at ht
  | .list t, cs, vs, x, r, ht, h => by
    unfold Ty.take takeList at ht
    split at ht
    · split at ht
      · rename_i hk; subst hk
        simp only [Option.some.injEq, Prod.mk.injEq] at ht
        obtain ⟨rfl, rfl⟩ := ht
        simp only [RepL, Rep] at h
        obtain ⟨v, vs', rfl, ⟨h1, _⟩, h2⟩ := h
        exact ⟨[v], vs', rfl, h1, h2⟩
      · simp at ht
    · simp only [Option.some.injEq, Prod.mk.injEq] at ht
      obtain ⟨rfl, rfl⟩ := ht
      simp only [RepL, Rep] at h
      obtain ⟨v, vs', rfl, rfl, h2⟩ := h
      exact ⟨[_], vs', rfl, by simp only [RepT]; exact ⟨none, 0, rfl, Nat.le_refl _, fun i hi => by simp at hi⟩, h2⟩
    · simp at ht
  | .prod a b, cs, vs, x, r, ht, h => by
    unfold Ty.take at ht
    split at ht
    · rename_i y r1 h1
      split at ht
      · rename_i z r2 h2
        simp only [Option.some.injEq, Prod.mk.injEq] at ht
        obtain ⟨rfl, rfl⟩ := ht
        obtain ⟨va, vb, rfl, ha, hb⟩ := RepL.take_of a cs vs y r1 h1 h
        obtain ⟨vc, vd, rfl, hc, hd⟩ := RepL.take_of b r1 vb z r2 h2 hb
        exact ⟨va ++ vc, vd, by simp, by simp only [RepT]; exact ⟨va, vc, rfl, ha, hc⟩, hd⟩
      · simp at ht
    · simp at ht
  | .one a, cs, vs, x, r, ht, h => by
    unfold Ty.take at ht
    obtain ⟨va, vb, rfl, ha, hb⟩ := RepL.take_of a cs vs x r ht h
    exact ⟨va, vb, rfl, by simpa only [RepT] using ha, hb⟩

/-- A solid value's cells are the machine's. -/
theorem Rep.cells {E : Env} {a : AV} {v : Value} (hs : a.solid = true) (h : Rep E a v) : RepL E a.cells v.cells.toList := by
  cases a <;> simp only [AV.solid, Bool.false_eq_true] at hs <;> simp only [AV.cells]
  case agg cs =>
    simp only [Rep] at h
    obtain ⟨vs, rfl, h⟩ := h
    simpa [Value.cells] using h
  case list t l full =>
    have h' := h
    simp only [Rep, RepT] at h'
    obtain ⟨⟨ad, cap, hv, _⟩, _⟩ := h'
    simp only [List.cons.injEq, and_true] at hv
    subst hv
    exact RepL.single h
  case view r lo hi =>
    have h' := h
    simp only [Rep] at h'
    obtain ⟨_, _, _, _, _, ad, cap, rfl, _⟩ := h'
    exact RepL.single h
  case ptr => have h' := h; simp only [Rep] at h'; obtain ⟨b, _, rfl⟩ := h'; exact RepL.single h
  case rptr => have h' := h; simp only [Rep] at h'; obtain ⟨b, _, _, _, _, rfl⟩ := h'; exact RepL.single h
  case iptr => have h' := h; simp only [Rep] at h'; obtain ⟨b, _, rfl, _⟩ := h'; exact RepL.single h
  case func => have h' := h; simp only [Rep] at h'; obtain ⟨b, _, rfl, _⟩ := h'; exact RepL.single h
  case maybe => have h' := h; simp only [Rep] at h'; obtain ⟨b, rfl, _⟩ := h'; exact RepL.single h
  all_goals (have h' := h; simp only [Rep] at h'; subst h'; exact RepL.single h)

/-- Data out of a value. -/
theorem Rep.of {E : Env} {t : Ty} {a : AV} {x : t.T} {v : Value} (ht : t.of a = some x) (h : Rep E a v) : RepT E.w E.ok t x v.cells.toList := by
  unfold Ty.of at ht
  split at ht
  · rename_i hs
    split at ht
    · rename_i y h1
      simp only [Option.some.injEq] at ht
      subst ht
      obtain ⟨va, vb, hv, ha, hb⟩ := RepL.take_of t _ _ y [] h1 (Rep.cells hs h)
      simp only [RepL] at hb
      subst hb
      rw [hv, List.append_nil]; exact ha
    · simp at ht
  · simp at ht

/-! ### own lists -/

def RowIs (w : World) (ok : Nat → Prop) (t : Ty) (l : List t.T) (vs : List Value) : Prop :=
  l.length * t.size ≤ vs.length ∧ ∀ (i : Nat) (h : i < l.length), RepT w ok t l[i] ((vs.drop (i * t.size)).take t.size)

theorem RowIs.mono {w w' : World} {ok ok' : Nat → Prop} (hle : OkLe w ok w' ok') {t : Ty} {l : List t.T} {vs : List Value} (h : RowIs w ok t l vs) : RowIs w' ok' t l vs :=
  ⟨h.1, fun i hi => (h.2 i hi).mono hle⟩

theorem RowIs.nil (w : World) (ok : Nat → Prop) (t : Ty) (vs : List Value) : RowIs w ok t [] vs := ⟨by simp, fun i hi => by simp at hi⟩

theorem mul_le_of_lt {i n s : Nat} (h : i < n) : i * s + s ≤ n * s := by
  have : (i + 1) * s ≤ n * s := Nat.mul_le_mul_right s h
  rw [Nat.add_mul, Nat.one_mul] at this; exact this

theorem RowIs.take {w : World} {ok : Nat → Prop} {t : Ty} {l : List t.T} {vs : List Value} (n : Nat) (h : RowIs w ok t l vs) : RowIs w ok t (l.take n) vs := by
  refine ⟨Nat.le_trans (Nat.mul_le_mul_right _ (by simp; omega)) h.1, fun i hi => ?_⟩
  have : i < l.length := by simp at hi; omega
  simpa [List.getElem_take] using h.2 i this

/-- A row only hangs on its first cells. -/
theorem RowIs.head {w : World} {ok : Nat → Prop} {t : Ty} {l : List t.T} {vs us : List Value} (h : RowIs w ok t l vs) (he : us.take (l.length * t.size) = vs.take (l.length * t.size)) (hl : l.length * t.size ≤ us.length) : RowIs w ok t l us := by
  refine ⟨hl, fun i hi => ?_⟩
  have hle := mul_le_of_lt (s := t.size) hi
  have h1 := h.2 i hi
  have e : ∀ xs : List Value, (xs.drop (i * t.size)).take t.size = ((xs.take (l.length * t.size)).drop (i * t.size)).take t.size := by
    intro xs
    rw [List.drop_take, List.take_take]
    congr 1
    omega
  rw [e us, he, ← e vs]; exact h1

theorem RowIs.append {w : World} {ok : Nat → Prop} {t : Ty} {l l' : List t.T} {vs us : List Value} (h : RowIs w ok t l vs) (h' : RowIs w ok t l' us) (hv : vs.length = l.length * t.size) : RowIs w ok t (l ++ l') (vs ++ us) := by
  refine ⟨?_, fun i hi => ?_⟩
  · have := h'.1
    simp only [List.length_append, Nat.add_mul]; omega
  · by_cases hlt : i < l.length
    · have hle := mul_le_of_lt (s := t.size) hlt
      have h1 := h.2 i hlt
      rw [List.getElem_append_left hlt]
      rw [List.drop_append_of_le_length (by omega), List.take_append_of_le_length (by simp; omega)]
      exact h1
    · have h1 := h'.2 (i - l.length) (by simp at hi; omega)
      rw [List.getElem_append_right (by omega)]
      have e : (vs ++ us).drop (i * t.size) = us.drop ((i - l.length) * t.size) := by
        rw [List.drop_append, List.drop_eq_nil_of_le (by rw [hv]; exact Nat.mul_le_mul_right _ (by omega)), List.nil_append]
        congr 1
        rw [hv, Nat.sub_mul]
      rw [e]; exact h1

theorem RowIs.set {w : World} {ok : Nat → Prop} {t : Ty} {l : List t.T} {vs cs : List Value} {i : Nat} {x : t.T} (h : RowIs w ok t l vs) (hi : i < l.length) (hx : RepT w ok t x cs) :
    RowIs w ok t (l.set i x) (vs.take (i * t.size) ++ cs ++ vs.drop (i * t.size + t.size)) := by
  have hc := hx.length
  have hle := mul_le_of_lt (s := t.size) hi
  have h0 := h.1
  refine ⟨by simp; omega, fun j hj => ?_⟩
  simp only [List.length_set] at hj
  have hlej := mul_le_of_lt (s := t.size) hj
  by_cases hji : j = i
  · subst hji
    simp only [List.getElem_set_self]
    rw [List.append_assoc, List.drop_append, List.drop_eq_nil_of_le (by simp; omega), List.nil_append]
    have : j * t.size - (vs.take (j * t.size)).length = 0 := by simp; omega
    rw [this, List.drop_zero, List.take_append_of_le_length (by omega), ← hc, List.take_length]
    exact hx
  · simp only [List.getElem_set_ne (Ne.symm hji)]
    have h1 := h.2 j hj
    have e : ((vs.take (i * t.size) ++ cs ++ vs.drop (i * t.size + t.size)).drop (j * t.size)).take t.size = (vs.drop (j * t.size)).take t.size := by
      apply List.ext_getElem?
      intro q
      simp only [List.getElem?_take, List.getElem?_drop]
      by_cases hq : q < t.size
      · simp only [hq, if_true]
        rcases Nat.lt_or_gt_of_ne hji with hlt | hgt
        · have := mul_le_of_lt (s := t.size) hlt
          rw [List.append_assoc, List.getElem?_append_left (by simp; omega), List.getElem?_take]
          simp only [show j * t.size + q < i * t.size by omega, if_true]
        · have := mul_le_of_lt (s := t.size) hgt
          rw [List.getElem?_append_right (by simp; omega), List.getElem?_drop]
          congr 1
          simp
          omega
      · simp [hq]
    rw [e]; exact h1

theorem RowIs.single {w : World} {ok : Nat → Prop} {t : Ty} {x : t.T} {cs : List Value} (hx : RepT w ok t x cs) : RowIs w ok t [x] cs :=
  ⟨by simp [hx.length], fun i hi => by
    have : i = 0 := by simp at hi; omega
    subst this
    simpa [← hx.length] using hx⟩

theorem RowIs.replicate {w : World} {ok : Nat → Prop} {t : Ty} {x : t.T} {cs : List Value} (hx : RepT w ok t x cs) : ∀ n, RowIs w ok t (List.replicate n x) (List.replicate n cs).flatten
  | 0 => by simpa using RowIs.nil w ok t []
  | n + 1 => by
    have h1 := RowIs.replicate hx n
    have h2 : RowIs w ok t [x] cs := ⟨by simp [hx.length], fun i hi => by
      have : i = 0 := by simp at hi; omega
      subst this
      simpa [← hx.length] using hx⟩
    have := h2.append h1 (by simp [hx.length])
    simpa [List.replicate_succ] using this

end Go.Cellar
