/- What relations mean, and which groups lack. No condition. -/
import Derived.Test.YtapfjjbgcfnnmaaDoorPl20d
set_option linter.unusedSimpArgs false
set_option linter.unusedVariables false
set_option maxRecDepth 4000
namespace Go.Cellar
open Go

abbrev Rl := List UInt8 × List UInt8 × List UInt8

theorem parsedV_lenL (s : List UInt8) (hs : s.length ≤ 9223372036854775807) : (parsedV s).2.1.length ≤ 9223372036854775807 ∧ (parsedV s).2.2.length ≤ 9223372036854775807 := by
  unfold parsedV
  split
  · have h := parseV_len s; exact ⟨by have := h.1; simp only; omega, by have := h.2; simp only; omega⟩
  · simpa using hs

theorem compare_eqL (a b : List UInt8) (ha : a.length ≤ 9223372036854775807) (hb : b.length ≤ 9223372036854775807) : version_Compare a b = some (cmpV (parsedV a) (parsedV b)) := by
  unfold version_Compare version_parsed
  have pa : (bif !decide ((parseV a).2.2.2 = 0) then some ((0 : Int), a, [(48 : UInt8)]) else some ((parseV a).1, (parseV a).2.1, (parseV a).2.2.1)) = some (parsedV a) := by
    unfold parsedV
    by_cases h : (parseV a).2.2.2 = 0 <;> simp [h]
  have pb : (bif !decide ((parseV b).2.2.2 = 0) then some ((0 : Int), b, [(48 : UInt8)]) else some ((parseV b).1, (parseV b).2.1, (parseV b).2.2.1)) = some (parsedV b) := by
    unfold parsedV
    by_cases h : (parseV b).2.2.2 = 0 <;> simp [h]
  obtain ⟨a1, a2⟩ := parsedV_lenL a ha
  obtain ⟨b1, b2⟩ := parsedV_lenL b hb
  simp only [vparse_eq a (by omega), vparse_eq b (by omega), Option.bind_some, pa, pb]
  generalize parsedV a = x at *
  generalize parsedV b = y at *
  obtain ⟨x1, x2, x3⟩ := x
  obtain ⟨y1, y2, y3⟩ := y
  simp only at a1 a2 b1 b2
  simp only [cmpInt_eq, Option.bind_some, order_eq x2 y2 (by omega) (by omega), order_eq x3 y3 (by omega) (by omega), cmpV, sgnI]
  by_cases c1 : x1 < y1
  · simp [c1]
  · by_cases c2 : y1 < x1
    · simp [c1, c2]
    · by_cases c3 : ordC x2 y2 = 0 <;> simp [c1, c2, c3]

theorem refCompare_eqL (a b : List UInt8) (ha : a.length ≤ 9223372036854775807) (hb : b.length ≤ 9223372036854775807) : cellarerref05_Compare a b = some (cmpV (parsedV a) (parsedV b)) := by
  unfold cellarerref05_Compare
  have pa : (bif !decide ((parseV a).2.2.2 = 0) then some ((0 : Int), a, [(48 : UInt8)]) else some ((parseV a).1, (parseV a).2.1, (parseV a).2.2.1)) = some (parsedV a) := by
    unfold parsedV
    by_cases h : (parseV a).2.2.2 = 0 <;> simp [h]
  have pb : (bif !decide ((parseV b).2.2.2 = 0) then some ((0 : Int), b, [(48 : UInt8)]) else some ((parseV b).1, (parseV b).2.1, (parseV b).2.2.1)) = some (parsedV b) := by
    unfold parsedV
    by_cases h : (parseV b).2.2.2 = 0 <;> simp [h]
  obtain ⟨a1, a2⟩ := parsedV_lenL a ha
  obtain ⟨b1, b2⟩ := parsedV_lenL b hb
  simp only [rparse_eq a (by omega), rparse_eq b (by omega), Option.bind_some, pa, pb]
  generalize parsedV a = x at *
  generalize parsedV b = y at *
  obtain ⟨x1, x2, x3⟩ := x
  obtain ⟨y1, y2, y3⟩ := y
  simp only at a1 a2 b1 b2
  simp only [Option.bind_some, refOrder_eq x2 y2 (by omega) (by omega), refOrder_eq x3 y3 (by omega) (by omega), cmpV, sgnI]
  by_cases c1 : x1 < y1
  · simp [c1]
  · by_cases c2 : y1 < x1
    · simp [c1, c2]
    · by_cases c3 : ordC x2 y2 = 0 <;> simp [c1, c2, c3]

theorem holds_eqL (a op b : List UInt8) (ha : a.length ≤ 9223372036854775807) (hb : b.length ≤ 9223372036854775807) : version_Holds a op b = some (holdsV (cmpV (parsedV a) (parsedV b)) op) := by
  unfold version_Holds holdsV
  simp only [compare_eqL a b ha hb, Option.bind_some, Bool.cond_decide]
  split
  · rfl
  · split
    · rfl
    · split
      · rfl
      · split
        · rfl
        · split <;> rfl

theorem refHolds_eqL (a op b : List UInt8) (ha : a.length ≤ 9223372036854775807) (hb : b.length ≤ 9223372036854775807) : cellarerref05_Holds a op b = some (holdsV (cmpV (parsedV a) (parsedV b)) op) := by
  unfold cellarerref05_Holds holdsV
  simp only [refCompare_eqL a b ha hb, Option.bind_some]
  generalize cmpV (parsedV a) (parsedV b) = c
  by_cases h0 : op = []
  · subst h0; simp
  · by_cases h1 : op = [60, 60]
    · subst h1
      by_cases hc : c < 0 <;> simp [hc]
    · by_cases h2 : op = [60, 61]
      · subst h2
        by_cases hc : c ≤ 0 <;> simp [hc]
      · by_cases h3 : op = [61]
        · subst h3
          by_cases hc : c = 0 <;> simp [hc]
        · by_cases h4 : op = [62, 61]
          · subst h4
            by_cases hc : 0 ≤ c <;> simp [hc]
          · by_cases h5 : op = [62, 62]
            · subst h5
              by_cases hc : 0 < c <;> simp [hc]
            · simp only [h0, h1, h2, h3, h4, h5, decide_false, cond_false, if_false]

theorem allFrom_all {α : Type} (p : α → Bool) : ∀ (r : List α) (k : Nat), allFrom (fun _ => p) k r = r.all p := by
  intro r
  induction r with
  | nil => intro k; rfl
  | cons c r ih => intro k; simp [allFrom, ih]

def fitsV (x : Rl) (n v : List UInt8) : Bool := decide (x.1 = n) && holdsV (cmpV (parsedV v) (parsedV x.2.2)) x.2.1

theorem fits_eq (a b c n v : List UInt8) (h1 : c.length ≤ 9223372036854775807) (h2 : v.length ≤ 9223372036854775807) : relation_Fits a b c n v = some (fitsV (a, b, c) n v) := by
  unfold relation_Fits fitsV
  rw [holds_eqL v b c h2 h1]
  by_cases h : a = n <;> simp [h]

theorem refFits_eq (a b c n v : List UInt8) (h1 : c.length ≤ 9223372036854775807) (h2 : v.length ≤ 9223372036854775807) : cellarerref07_Fits a b c n v = some (fitsV (a, b, c) n v) := by
  unfold cellarerref07_Fits fitsV
  rw [refHolds_eqL v b c h2 h1]
  by_cases h : a = n <;> simp [h]

def anyV (there : List Rl) (x : Rl) : Bool := there.any fun y => fitsV x y.1 y.2.2
def metV (there : List Rl) (g : List Rl) : Bool := g.any (anyV there)

/-- Small enough. -/
def SmG (g : List Rl) : Prop := g.length < 1000000 ∧ ∀ y ∈ g, y.2.2.length ≤ 9223372036854775807

theorem met0 (there : List Rl) (x : Rl) (ht : SmG there) (hx : x.2.2.length ≤ 9223372036854775807) : iter (relation_met_b0 there ((there.length : Nat) : Int) x.1 x.2.1 x.2.2) (0 : Int) = some (if anyV there x = true then .inl () else .inr ()) := by
  have := all_loop (relation_met_b0 there ((there.length : Nat) : Int) x.1 x.2.1 x.2.2) (fun _ y => !fitsV x y.1 y.2.2) there (fun k hk => by
    unfold relation_met_b0
    simp [show ¬ k < there.length by omega]) (fun k y r h => by
    obtain ⟨g1, g2, g3⟩ := drop_cons h ([], [], [])
    have hy := ht.2 y (List.mem_of_mem_drop (by rw [h]; simp))
    have hl := ht.1
    unfold relation_met_b0
    simp only [natlt, g1, decide_true, cond_true, Int.natCast_nonneg, true_and, if_true, Int.toNat_natCast, g2, kplus g1 (by omega), fits_eq x.1 x.2.1 x.2.2 y.1 y.2.2 hx hy, Option.bind_some]
    cases fitsV x y.1 y.2.2 <;> rfl) there 0 rfl
  have h2 : iter (relation_met_b0 there ((there.length : Nat) : Int) x.1 x.2.1 x.2.2) (0 : Int) = _ := this
  rw [h2, allFrom_all]
  unfold anyV
  rw [← List.not_any_eq_all_not]
  cases there.any fun y => fitsV x y.1 y.2.2 <;> rfl

theorem met_eq (g there : List Rl) (hg : SmG g) (ht : SmG there) : relation_met g there = some (metV there g) := by
  unfold relation_met
  have := all_loop (relation_met_b1 there g ((g.length : Nat) : Int)) (fun _ x => !anyV there x) g (fun k hk => by
    unfold relation_met_b1
    simp [show ¬ k < g.length by omega]) (fun k x r h => by
    obtain ⟨g1, g2, g3⟩ := drop_cons h ([], [], [])
    have hx := hg.2 x (List.mem_of_mem_drop (by rw [h]; simp))
    have hl := hg.1
    unfold relation_met_b1
    simp only [natlt, g1, decide_true, cond_true, Int.natCast_nonneg, true_and, if_true, Int.toNat_natCast, g2, kplus g1 (by omega), met0 there x ht hx, Option.bind_some]
    cases anyV there x <;> rfl) g 0 rfl
  have h2 : iter (relation_met_b1 there g ((g.length : Nat) : Int)) (0 : Int) = _ := this
  rw [h2, allFrom_all]
  unfold metV
  rw [← List.not_any_eq_all_not]
  cases g.any fun y => anyV there y <;> rfl

def lacksFrom (there : List Rl) : Nat → List (List Rl) → List Int
  | _, [] => []
  | k, g :: r => if metV there g = true then lacksFrom there (k + 1) r else (k : Int) :: lacksFrom there (k + 1) r

theorem lacksFrom_len (there : List Rl) : ∀ (r : List (List Rl)) (k : Nat), (lacksFrom there k r).length ≤ r.length := by
  intro r
  induction r with
  | nil => intro k; exact Nat.le_refl _
  | cons g r ih =>
    intro k
    have := ih (k + 1)
    unfold lacksFrom
    split <;> simp <;> omega

theorem lacks_loop (l : List (List Rl)) (there : List Rl) (hl : l.length < 1000000) (hg : ∀ g ∈ l, SmG g) (ht : SmG there) : ∀ (r : List (List Rl)) (k : Nat) (out : List Int), l.drop k = r → out.length ≤ k →
    iter (relation_Lacks_b0 there l ((l.length : Nat) : Int)) ((k : Int), out) = some (out ++ lacksFrom there k r) := by
  intro r
  induction r with
  | nil =>
    intro k out h ho
    have hk := drop_nil h
    rw [iter_inr (t := out)]
    · simp [lacksFrom]
    · unfold relation_Lacks_b0
      simp [show ¬ k < l.length by omega]
  | cons g r ih =>
    intro k out h ho
    obtain ⟨g1, g2, g3⟩ := drop_cons h []
    have hgg := hg g (List.mem_of_mem_drop (by rw [h]; simp))
    by_cases hm : metV there g = true
    · rw [iter_inl (s' := (((k + 1 : Nat) : Int), out)), ih (k + 1) out g3 (by omega)]
      · conv => rhs; unfold lacksFrom
        rw [if_pos hm]
      · unfold relation_Lacks_b0
        simp only [natlt, g1, decide_true, cond_true, Int.natCast_nonneg, true_and, if_true, Int.toNat_natCast, g2, kplus g1 (by omega), met_eq g there hgg ht, Option.bind_some, hm, Bool.not_true, cond_false]
    · rw [iter_inl (s' := (((k + 1 : Nat) : Int), out ++ [(k : Int)])), ih (k + 1) _ g3 (by simp; omega)]
      · conv => rhs; unfold lacksFrom
        rw [if_neg hm]
        simp
      · have hf : metV there g = false := by simpa using hm
        unfold relation_Lacks_b0
        simp only [natlt, g1, decide_true, cond_true, Int.natCast_nonneg, true_and, if_true, Int.toNat_natCast, g2, kplus g1 (by omega), met_eq g there hgg ht, Option.bind_some, hf, Bool.not_false, List.drop_zero]
        rw [if_pos (by simp; omega)]

theorem lacks_eq (l : List (List Rl)) (there : List Rl) (hl : l.length < 1000000) (hg : ∀ g ∈ l, SmG g) (ht : SmG there) : relation_Lacks l there = some (lacksFrom there 0 l) := by
  unfold relation_Lacks
  have h : iter (relation_Lacks_b0 there l ((l.length : Nat) : Int)) ((0 : Int), []) = some ([] ++ lacksFrom there 0 l) := lacks_loop l there hl hg ht l 0 [] rfl (by simp)
  rw [h]
  rfl

theorem refLacks0 (l : List (List Rl)) (there : List Rl) (i k : Nat) (hi : i < l.length) (hk : k < (l.getD i []).length) (x : Rl) (hx : (l.getD i []).getD k ([], [], []) = x) (hxs : x.2.2.length ≤ 9223372036854775807) (ht : SmG there) :
    ∀ (r : List Rl) (j : Nat) (m : Bool), there.drop j = r → iter (cellarerref07_Lacks_b0 l there (i : Int) (k : Int)) (m, (j : Int)) = some (m || anyV r x) := by
  intro r
  induction r with
  | nil =>
    intro j m h
    have hj := drop_nil h
    rw [iter_inr (t := m)]
    · simp [anyV]
    · unfold cellarerref07_Lacks_b0
      simp [show ¬ j < there.length by omega]
  | cons y r ih =>
    intro j m h
    obtain ⟨g1, g2, g3⟩ := drop_cons h ([], [], [])
    have hy := ht.2 y (List.mem_of_mem_drop (by rw [h]; simp))
    have hl := ht.1
    cases m with
    | true =>
      rw [iter_inl (s' := (true, ((j + 1 : Nat) : Int))), ih (j + 1) true g3]
      · rfl
      · unfold cellarerref07_Lacks_b0
        simp only [natlt, g1, decide_true, cond_true, kplus g1 (by omega)]
    | false =>
      rw [iter_inl (s' := (fitsV x y.1 y.2.2, ((j + 1 : Nat) : Int))), ih (j + 1) _ g3]
      · rfl
      · unfold cellarerref07_Lacks_b0
        simp only [natlt, g1, hi, hk, decide_true, cond_true, cond_false, Int.natCast_nonneg, true_and, if_true, Int.toNat_natCast, hx, g2, kplus g1 (by omega), refFits_eq x.1 x.2.1 x.2.2 y.1 y.2.2 hxs hy, Option.bind_some]

theorem refLacks1 (l : List (List Rl)) (there : List Rl) (i : Nat) (hi : i < l.length) (g : List Rl) (hgi : l.getD i [] = g) (hg : SmG g) (ht : SmG there) :
    ∀ (r : List Rl) (k : Nat) (m : Bool), g.drop k = r → iter (cellarerref07_Lacks_b1 l there (i : Int)) (m, (k : Int)) = some (m || metV there r) := by
  intro r
  induction r with
  | nil =>
    intro k m h
    have hk := drop_nil h
    rw [iter_inr (t := m)]
    · simp [metV]
    · unfold cellarerref07_Lacks_b1
      simp only [natlt, hi, Int.natCast_nonneg, true_and, if_true, Int.toNat_natCast, hgi, show ¬ k < g.length by omega, decide_false, cond_false]
  | cons x r ih =>
    intro k m h
    obtain ⟨g1, g2, g3⟩ := drop_cons h ([], [], [])
    have hx := hg.2 x (List.mem_of_mem_drop (by rw [h]; simp))
    have hl := hg.1
    have h0 : iter (cellarerref07_Lacks_b0 l there (i : Int) (k : Int)) (m, (0 : Int)) = some (m || anyV there x) := refLacks0 l there i k hi (by rw [hgi]; exact g1) x (by rw [hgi]; exact g2) hx ht there 0 m rfl
    rw [iter_inl (s' := (m || anyV there x, ((k + 1 : Nat) : Int))), ih (k + 1) _ g3]
    · simp [metV, Bool.or_assoc]
    · unfold cellarerref07_Lacks_b1
      simp only [natlt, hi, Int.natCast_nonneg, true_and, if_true, Int.toNat_natCast, hgi, g1, decide_true, cond_true, h0, Option.bind_some, kplus g1 (by omega)]

theorem refLacks_loop (l : List (List Rl)) (there : List Rl) (hl : l.length < 1000000) (hg : ∀ g ∈ l, SmG g) (ht : SmG there) : ∀ (r : List (List Rl)) (k : Nat) (out : List Int), l.drop k = r → out.length ≤ k →
    iter (cellarerref07_Lacks_b2 l there) ((k : Int), out) = some (out ++ lacksFrom there k r) := by
  intro r
  induction r with
  | nil =>
    intro k out h ho
    have hk := drop_nil h
    rw [iter_inr (t := out)]
    · simp [lacksFrom]
    · unfold cellarerref07_Lacks_b2
      simp [show ¬ k < l.length by omega]
  | cons g r ih =>
    intro k out h ho
    obtain ⟨g1, g2, g3⟩ := drop_cons h []
    have hgg := hg g (List.mem_of_mem_drop (by rw [h]; simp))
    have h1 : iter (cellarerref07_Lacks_b1 l there (k : Int)) (false, (0 : Int)) = some (false || metV there g) := refLacks1 l there k g1 g g2 hgg ht g 0 false rfl
    rw [Bool.false_or] at h1
    by_cases hm : metV there g = true
    · rw [iter_inl (s' := (((k + 1 : Nat) : Int), out)), ih (k + 1) out g3 (by omega)]
      · conv => rhs; unfold lacksFrom
        rw [if_pos hm]
      · unfold cellarerref07_Lacks_b2
        simp only [natlt, g1, decide_true, cond_true, kplus g1 (by omega), h1, Option.bind_some, hm, Bool.not_true, cond_false]
    · rw [iter_inl (s' := (((k + 1 : Nat) : Int), out ++ [(k : Int)])), ih (k + 1) _ g3 (by simp; omega)]
      · conv => rhs; unfold lacksFrom
        rw [if_neg hm]
        simp
      · have hf : metV there g = false := by simpa using hm
        unfold cellarerref07_Lacks_b2
        simp only [natlt, g1, decide_true, cond_true, kplus g1 (by omega), h1, Option.bind_some, hf, Bool.not_false, List.drop_zero]
        rw [if_pos (by simp; omega)]

theorem refLacks_eq (l : List (List Rl)) (there : List Rl) (hl : l.length < 1000000) (hg : ∀ g ∈ l, SmG g) (ht : SmG there) : cellarerref07_Lacks l there = some (lacksFrom there 0 l) := by
  unfold cellarerref07_Lacks
  have h : iter (cellarerref07_Lacks_b2 l there) ((0 : Int), []) = some ([] ++ lacksFrom there 0 l) := refLacks_loop l there hl hg ht l 0 [] rfl (by simp)
  rw [h]
  rfl

/-- With more there none lacks that did not. -/
theorem lacks_sub (there more : List Rl) : ∀ (l : List (List Rl)) (k : Nat), ∀ x ∈ lacksFrom (there ++ more) k l, x ∈ lacksFrom there k l := by
  intro l
  induction l with
  | nil => intro k x hx; exact hx
  | cons g l ih =>
    intro k x hx
    unfold lacksFrom at hx ⊢
    by_cases h1 : metV there g = true
    · have h2 : metV (there ++ more) g = true := by
        unfold metV at h1 ⊢
        rw [List.any_eq_true] at h1 ⊢
        obtain ⟨y, hy, h⟩ := h1
        refine ⟨y, hy, ?_⟩
        unfold anyV at h ⊢
        rw [List.any_append, h, Bool.true_or]
      rw [if_pos h2] at hx
      rw [if_pos h1]
      exact ih _ x hx
    · rw [if_neg h1]
      by_cases h2 : metV (there ++ more) g = true
      · rw [if_pos h2] at hx
        exact List.mem_cons_of_mem _ (ih _ x hx)
      · rw [if_neg h2] at hx
        rcases List.mem_cons.mp hx with rfl | hx
        · simp
        · exact List.mem_cons_of_mem _ (ih _ x hx)

end Go.Cellar
