/- Are two lists of texts one. No condition. -/
import Derived.Test.YtmeglodejjkmoaaDoorPl0
import Derived.Test.YtmeglodejjkmoaaDoorFun2
set_option linter.unusedSimpArgs false
set_option linter.unusedVariables false
namespace Go.Cellar
open Go

/-- Are two lists one, from a place on? -/
theorem same_loop (a b : List (List UInt8)) (hab : a.length = b.length) (ha : a.length < 1000002) : iter (cellarerref02_Same_b0 a b) (0 : Int) = some (if a = b then .inr () else .inl ()) := by
  have key : ∀ (r : List (List UInt8)) (k : Nat), a.drop k = r → iter (cellarerref02_Same_b0 a b) (k : Int) = some (if r = b.drop k then .inr () else .inl ()) := by
    intro r
    induction r with
    | nil =>
      intro k h
      have := drop_nil h
      have hb : b.drop k = [] := List.drop_eq_nil_of_le (by omega)
      rw [iter_inr (t := .inr ()), hb]
      · simp
      · unfold cellarerref02_Same_b0
        simp [show ¬ k < a.length by omega]
    | cons x r ih =>
      intro k h
      obtain ⟨g1, g2, g3⟩ := drop_cons h []
      have hkb : k < b.length := by omega
      have hb : b.drop k = b.getD k [] :: b.drop (k + 1) := by
        rw [List.drop_eq_getElem_cons hkb, List.getD_eq_getElem?_getD, List.getElem?_eq_getElem hkb]; rfl
      have hbody : cellarerref02_Same_b0 a b (k : Int) = some (if x = b.getD k [] then .inl ((k + 1 : Nat) : Int) else .inr (.inl ())) := by
        unfold cellarerref02_Same_b0
        simp only [natlt, g1, hkb, decide_true, cond_true, Int.natCast_nonneg, true_and, and_self, if_true, Int.toNat_natCast, g2, kplus g1 (by omega)]
        by_cases hx : x = b.getD k []
        · rw [if_pos hx, decide_eq_true hx]; rfl
        · rw [if_neg hx, decide_eq_false hx]; rfl
      by_cases hx : x = b.getD k []
      · rw [if_pos hx] at hbody
        rw [iter_inl hbody, ih (k + 1) g3, hb, ← hx]
        simp
      · rw [if_neg hx] at hbody
        rw [iter_inr hbody, hb, if_neg (fun e => hx (by simp only [List.cons.injEq] at e; exact e.1))]
  have := key a 0 rfl
  simpa using this

end Go.Cellar
