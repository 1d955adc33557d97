/- Plain laws: numbers, loops, places in lists. No condition. -/
import Derived.Test.YtjdjmbogopadaaaGreatDoorAbs19e
namespace Go.Cellar
open Go

theorem w64 {n : Int} (h : -9223372036854775808 ≤ n) (h' : n < 9223372036854775808) : IntKind.wrap IntKind.i64 n = n := by
  simp [IntKind.wrap, IntKind.min, IntKind.max, IntKind.signed, IntKind.bits]; omega
theorem w32 {n : Int} (h : -2147483648 ≤ n) (h' : n < 2147483648) : IntKind.wrap IntKind.i32 n = n := by
  simp [IntKind.wrap, IntKind.min, IntKind.max, IntKind.signed, IntKind.bits]; omega
theorem wu64 {n : Int} (h : 0 ≤ n) (h' : n < 18446744073709551616) : IntKind.wrap IntKind.u64 n = n := by
  simp [IntKind.wrap, IntKind.min, IntKind.max, IntKind.signed, IntKind.bits]; omega
theorem wu8 {n : Int} (h : 0 ≤ n) (h' : n < 256) : IntKind.wrap IntKind.u8 n = n := by
  simp [IntKind.wrap, IntKind.min, IntKind.max, IntKind.signed, IntKind.bits]; omega

theorem fit64 {n : Int} (h : (Lit.int .i64 n).wf = true) : -9223372036854775808 ≤ n ∧ n ≤ 9223372036854775807 := by
  simp [Lit.wf, IntKind.min, IntKind.max, IntKind.signed, IntKind.bits] at h
  omega

theorem iter_step {S T : Type} (b : S → Option (S ⊕ T)) (s : S) : iter b s = (b s).bind (Sum.elim (iter b) some) := by
  cases h : b s with
  | none => rw [iter_none h]; rfl
  | some x =>
    cases x with
    | inl s' => rw [iter_inl h]; rfl
    | inr t => rw [iter_inr h]; rfl

theorem drop_cons {α : Type} {l : List α} {k : Nat} {c : α} {r : List α} (h : l.drop k = c :: r) (d : α) : k < l.length ∧ l.getD k d = c ∧ l.drop (k + 1) = r := by
  have hk : k < l.length := by
    rcases Nat.lt_or_ge k l.length with hk | hk
    · exact hk
    · rw [List.drop_eq_nil_of_le hk] at h; cases h
  rw [List.drop_eq_getElem_cons hk] at h
  simp only [List.cons.injEq] at h
  exact ⟨hk, by rw [List.getD_eq_getElem?_getD, List.getElem?_eq_getElem hk]; exact h.1, h.2⟩

theorem drop_nil {α : Type} {l : List α} {k : Nat} (h : l.drop k = []) : l.length ≤ k := by
  simpa using h

theorem natlt {a b : Nat} : ((a : Int) < (b : Int)) = (a < b) := by simp

theorem u8lt (c : UInt8) : (c.toNat : Int) < 256 := by have := c.toNat_lt; omega

/-! ### loops over a list's places -/

def allFrom {α : Type} (p : Nat → α → Bool) : Nat → List α → Bool
  | _, [] => true
  | k, c :: r => p k c && allFrom p (k + 1) r

/-- A loop that tests place by place. -/
theorem all_loop {α : Type} (B : Int → Option (Int ⊕ (Unit ⊕ Unit))) (p : Nat → α → Bool) (s : List α)
    (hend : ∀ k : Nat, s.length ≤ k → B (k : Int) = some (.inr (.inr ())))
    (hgo : ∀ (k : Nat) (c : α) (r : List α), s.drop k = c :: r → B (k : Int) = some (if p k c = true then .inl ((k + 1 : Nat) : Int) else .inr (.inl ()))) :
    ∀ (r : List α) (k : Nat), s.drop k = r → iter B (k : Int) = some (if allFrom p k r = true then .inr () else .inl ()) := by
  intro r
  induction r with
  | nil =>
    intro k h
    rw [iter_inr (hend k (drop_nil h))]
    rfl
  | cons c r ih =>
    intro k h
    have hb := hgo k c r h
    by_cases hc : p k c = true
    · rw [if_pos hc] at hb
      rw [iter_inl hb, ih (k + 1) (drop_cons h c).2.2]
      simp [allFrom, hc]
    · rw [if_neg hc] at hb
      rw [iter_inr hb]
      simp [allFrom, hc]

theorem kplus {k n : Nat} (h : k < n) (hn : n < 4611686018427387904) : IntKind.wrap IntKind.i64 ((k : Int) + 1) = ((k + 1 : Nat) : Int) := by
  rw [w64 (by omega) (by omega)]; omega

end Go.Cellar
