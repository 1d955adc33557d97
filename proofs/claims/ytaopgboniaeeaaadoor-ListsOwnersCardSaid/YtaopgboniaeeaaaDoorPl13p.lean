/- Lists with one more, and without a name. No condition. -/
import Derived.Test.YtaopgboniaeeaaaDoorPl13g
import Derived.Test.YtaopgboniaeeaaaDoorPllose
set_option linter.unusedSimpArgs false
set_option linter.unusedVariables false
set_option maxRecDepth 8000
namespace Go.Cellar
open Go

def zL : Ls := ([], [])
def gtD (p : List UInt8) (x : Ls) : Bool := !(Go.Op.bytesLess x.1 p || decide (x.1 = p))

theorem findL_loop (l : List Ls) (p : List UInt8) (hl : l.length ≤ 10000) : ∀ (r : List Ls) (k : Nat), l.drop k = r →
    iter (api_List__b0 l (l.length : Int)) ((k : Int), p) = some (match firstG (keyL p) r k with | some i => .inl ((i : Int), p) | none => .inr p) := by
  intro r
  induction r with
  | nil =>
    intro k h
    have := drop_nil h
    rw [iter_inr (t := .inr p)]
    · rfl
    · unfold api_List__b0
      simp [show ¬ k < l.length by omega]
  | cons x r ih =>
    intro k h
    obtain ⟨g1, g2, g3⟩ := drop_cons h ([], [])
    by_cases hx : x.1 = p
    · rw [iter_inr (t := .inl ((k : Int), p))]
      · simp [firstG, keyL, hx]
      · unfold api_List__b0 lists_Find_1
        simp only [natlt, g1, decide_true, cond_true, Int.natCast_nonneg, true_and, if_true, Int.toNat_natCast, g2, Option.bind_some, hx]
    · rw [iter_inl (s' := (((k + 1 : Nat) : Int), p)), ih (k + 1) g3]
      · simp [firstG, keyL, hx]
      · unfold api_List__b0 lists_Find_1
        simp only [natlt, g1, decide_true, cond_true, Int.natCast_nonneg, true_and, if_true, Int.toNat_natCast, g2, Option.bind_some, hx, decide_false, cond_false, kplus g1 (by omega)]

theorem findG (l : List Ls) (p : List UInt8) (hl : l.length ≤ 10000) : lists_Find l p = some (idxG (firstG (keyL p) l 0)) := by
  unfold lists_Find api_List_
  have h : iter (api_List__b0 l (l.length : Int)) ((0 : Int), p) = _ := findL_loop l p hl l 0 rfl
  rw [h]
  cases firstG (keyL p) l 0 <;> rfl

theorem refFindL_loop (l : List Ls) (p : List UInt8) (hl : l.length ≤ 10000) : ∀ (r : List Ls) (k : Nat), l.drop k = r →
    iter (cellarerref13_Find_b0 l p) (k : Int) = some (match firstG (keyL p) r k with | some i => .inl (i : Int) | none => .inr ()) := by
  intro r
  induction r with
  | nil =>
    intro k h
    have := drop_nil h
    rw [iter_inr (t := .inr ())]
    · rfl
    · unfold cellarerref13_Find_b0
      simp [show ¬ k < l.length by omega]
  | cons x r ih =>
    intro k h
    obtain ⟨g1, g2, g3⟩ := drop_cons h ([], [])
    by_cases hx : x.1 = p
    · rw [iter_inr (t := .inl (k : Int))]
      · simp [firstG, keyL, hx]
      · unfold cellarerref13_Find_b0
        simp only [natlt, g1, decide_true, cond_true, Int.natCast_nonneg, true_and, if_true, Int.toNat_natCast, g2, Option.bind_some, hx]
    · rw [iter_inl (s' := ((k + 1 : Nat) : Int)), ih (k + 1) g3]
      · simp [firstG, keyL, hx]
      · unfold cellarerref13_Find_b0
        simp only [natlt, g1, decide_true, cond_true, Int.natCast_nonneg, true_and, if_true, Int.toNat_natCast, g2, Option.bind_some, hx, decide_false, cond_false, kplus g1 (by omega)]

theorem refFindG (l : List Ls) (p : List UInt8) (hl : l.length ≤ 10000) : cellarerref13_Find l p = some (idxG (firstG (keyL p) l 0)) := by
  unfold cellarerref13_Find
  have h : iter (cellarerref13_Find_b0 l p) (0 : Int) = _ := refFindL_loop l p hl l 0 rfl
  rw [h]
  cases firstG (keyL p) l 0 <;> rfl

theorem cloneD_eq (l : List Ls) (hl : l.length ≤ 10000) : api_List__40 l = some l := by
  unfold api_List__40
  rw [if_pos (by omega)]
  cases l with
  | nil => unfold mayb both; simp
  | cons x l => rfl

theorem putIdx_loop (l : List Ls) (a : List UInt8) (b : List (List UInt8)) (hl : l.length ≤ 10000) : ∀ (r : List Ls) (k : Nat), l.drop k = r →
    iter (api_List__v1_b0 l (l.length : Int)) ((k : Int), a, b) = some (match firstG (gtD a) r k with | some i => .inl ((i : Int), a, b) | none => .inr (a, b)) := by
  intro r
  induction r with
  | nil =>
    intro k h
    have := drop_nil h
    rw [iter_inr (t := .inr (a, b))]
    · rfl
    · unfold api_List__v1_b0
      simp [show ¬ k < l.length by omega]
  | cons x r ih =>
    intro k h
    obtain ⟨g1, g2, g3⟩ := drop_cons h ([], [])
    cases hx : gtD a x with
    | true =>
      have hx' : (!(Go.Op.bytesLess x.1 a || decide (x.1 = a))) = true := hx
      rw [iter_inr (t := .inl ((k : Int), a, b))]
      · simp [firstG, hx]
      · unfold api_List__v1_b0 lists_Put_1
        simp only [natlt, g1, decide_true, cond_true, Int.natCast_nonneg, true_and, if_true, Int.toNat_natCast, g2, Option.bind_some, hx']
    | false =>
      have hx' : (!(Go.Op.bytesLess x.1 a || decide (x.1 = a))) = false := hx
      rw [iter_inl (s' := (((k + 1 : Nat) : Int), a, b)), ih (k + 1) g3]
      · simp [firstG, hx]
      · unfold api_List__v1_b0 lists_Put_1
        simp only [natlt, g1, decide_true, cond_true, Int.natCast_nonneg, true_and, if_true, Int.toNat_natCast, g2, Option.bind_some, hx', cond_false, kplus g1 (by omega)]

def putD (l : List Ls) (x : Ls) : List Ls := putG (keyL x.1) (gtD x.1) x l

theorem insD_eq (l : List Ls) (n : Nat) (x : Ls) (hl : l.length ≤ 10000) (hn : n ≤ l.length) : api_List__50 (n : Int) [x] l = some (insOne l n x) := by
  unfold api_List__50
  dsimp only
  rw [if_pos (by omega), Int.toNat_natCast]

theorem putD_eq (l : List Ls) (a : List UInt8) (b : List (List UInt8)) (hl : l.length ≤ 10000) : lists_Put l a b = some (putD l (a, b)) := by
  unfold lists_Put
  rw [cloneD_eq l hl, findG l a hl]
  simp only [Option.bind_some]
  unfold putD putG
  cases h : firstG (keyL a) l 0 with
  | some i =>
    have hi := firstG_lt _ l i h
    obtain ⟨z, hz⟩ : ∃ z, z = idxG (some i) := ⟨_, rfl⟩
    have hz' : z = (i : Int) := hz
    rw [← hz, decide_eq_true (show 0 ≤ z by omega), if_pos (by omega), if_pos (by omega), show z.toNat = i by omega]
    simp only [cond_true, Nat.zero_add]
  | none =>
    obtain ⟨z, hz⟩ : ∃ z, z = idxG none := ⟨_, rfl⟩
    have hz' : z = (-1 : Int) := hz
    rw [← hz, decide_eq_false (show ¬ 0 ≤ z by omega)]
    simp only [cond_false]
    unfold api_List__v1
    have hp : iter (api_List__v1_b0 l (l.length : Int)) ((0 : Int), a, b) = _ := putIdx_loop l a b hl l 0 rfl
    rw [hp]
    cases hg : firstG (gtD a) l 0 with
    | some j =>
      have hj := firstG_lt _ l j hg
      simp only [Option.bind_some, Sum.elim_inl]
      rw [decide_eq_false (by omega)]
      simp only [cond_false]
      rw [insD_eq l j _ hl (by omega)]
      rfl
    | none =>
      simp only [Option.bind_some, Sum.elim_inr]
      rw [decide_eq_true (by omega)]
      simp only [cond_true]
      rw [insD_eq l l.length _ hl (Nat.le_refl _)]
      rfl

theorem refPut_loop (l : List Ls) (old : Int) (a : List UInt8) (b : List (List UInt8)) (hl : l.length ≤ 10000) : ∀ (r : List Ls) (k : Nat) (p : Bool) (out : List Ls), l.drop k = r → k ≤ l.length → out.length ≤ 2 * k →
    ∃ p' out', iter (cellarerref13_Put_b0 l old a b) (p, (k : Int), out) = some (p', out') ∧ (if p' then out' else out' ++ [(a, b)]) = out ++ goP (gtD a) (a, b) old r k p ∧ out'.length ≤ 2 * l.length := by
  intro r
  induction r with
  | nil =>
    intro k p out h hkl ho
    have := drop_nil h
    refine ⟨p, out, iter_inr ?_, ?_, by omega⟩
    · unfold cellarerref13_Put_b0
      simp [show ¬ k < l.length by omega]
    · cases p <;> simp [goP]
  | cons y r ih =>
    intro k p out h hkl ho
    obtain ⟨g1, g2, g3⟩ := drop_cons h ([], [])
    obtain ⟨y1, y2⟩ := y
    have hb : cellarerref13_Put_b0 l old a b (p, (k : Int), out) = some (.inl (p || gtD a (y1, y2), ((k + 1 : Nat) : Int), (out ++ (if !p && gtD a (y1, y2) then [(a, b)] else [])) ++ [if (k : Int) = old then (a, b) else (y1, y2)])) := by
      unfold cellarerref13_Put_b0
      simp only [natlt, g1, decide_true, cond_true, Int.natCast_nonneg, true_and, if_true, Int.toNat_natCast, g2, kplus g1 (by omega), List.length_append, List.length_cons, List.length_nil]
      have e : gtD a (y1, y2) = !(Go.Op.bytesLess y1 a || decide (y1 = a)) := rfl
      rw [e]
      cases p with
      | true =>
        simp only [Bool.not_true, cond_false, Option.bind_some, Bool.true_or, Bool.false_and, Bool.false_eq_true, if_false, List.append_nil]
        rw [if_pos (by omega), if_pos (by omega)]
        by_cases hk : (k : Int) = old
        · rw [decide_eq_true hk, if_pos hk]; rfl
        · rw [decide_eq_false hk, if_neg hk]; rfl
      | false =>
        cases hg : (!(Go.Op.bytesLess y1 a || decide (y1 = a))) with
        | true =>
          simp only [Bool.not_false, cond_true, Bool.false_or, Bool.true_and, if_true]
          rw [if_pos (by omega)]
          simp only [Option.bind_some, List.length_append, List.length_cons, List.length_nil]
          rw [if_pos (by omega), if_pos (by omega)]
          by_cases hk : (k : Int) = old
          · rw [decide_eq_true hk, if_pos hk]; rfl
          · rw [decide_eq_false hk, if_neg hk]; rfl
        | false =>
          simp only [Bool.not_false, cond_true, cond_false, Bool.false_or, Bool.true_and, Bool.false_eq_true, if_false, Option.bind_some, List.append_nil]
          rw [if_pos (by omega), if_pos (by omega)]
          by_cases hk : (k : Int) = old
          · rw [decide_eq_true hk, if_pos hk]; rfl
          · rw [decide_eq_false hk, if_neg hk]; rfl
    rw [iter_inl hb]
    obtain ⟨O, hO⟩ : ∃ O, O = (out ++ (if !p && gtD a (y1, y2) then [(a, b)] else [])) ++ [if (k : Int) = old then (a, b) else (y1, y2)] := ⟨_, rfl⟩
    have hOl : O.length ≤ 2 * (k + 1) := by
      rw [hO]
      simp only [List.length_append, List.length_cons, List.length_nil]
      split <;> simp <;> omega
    rw [← hO]
    obtain ⟨p', out', h1, h2, h3⟩ := ih (k + 1) (p || gtD a (y1, y2)) O g3 (by omega) hOl
    refine ⟨p', out', h1, ?_, by omega⟩
    rw [h2, hO]
    simp only [goP, List.append_assoc, List.singleton_append]

theorem refPutD_eq (l : List Ls) (a : List UInt8) (b : List (List UInt8)) (hl : l.length ≤ 10000) : cellarerref13_Put l a b = some (putD l (a, b)) := by
  unfold cellarerref13_Put
  rw [refFindG l a hl]
  simp only [Option.bind_some]
  obtain ⟨p', out', h1, h2, h3⟩ := refPut_loop l (idxG (firstG (keyL a) l 0)) a b hl l 0 (decide (0 ≤ idxG (firstG (keyL a) l 0))) [] rfl (by simp) (by simp)
  have h1' : iter (cellarerref13_Put_b0 l (idxG (firstG (keyL a) l 0)) a b) (decide (0 ≤ idxG (firstG (keyL a) l 0)), (0 : Int), []) = some (p', out') := h1
  rw [h1', goP_eq, List.nil_append] at *
  simp only [Option.bind_some]
  unfold putD
  rw [← h2]
  cases p' with
  | true => rfl
  | false =>
    simp only [Bool.not_false, cond_true, Bool.false_eq_true, if_false, List.length_cons, List.length_nil]
    rw [if_pos (by omega)]

/-! ### without a path -/

def keepD (p : List UInt8) (x : Ls) : Bool := !keyL p x
def dropD (l : List Ls) (p : List UInt8) : List Ls := l.filter fun y => !keyL p y

theorem delD_index (l : List Ls) (n : List UInt8) (hl : l.length ≤ 10000) : ∀ (r : List Ls) (k : Nat), l.drop k = r → (∀ x ∈ l.take k, keepD n x = true) →
    (iter (api_List__v2_b0 l ((l.length : Nat) : Int)) ((k : Int), n) = some (.inr n) ∧ ∀ x ∈ l, keepD n x = true) ∨
    ∃ (m : Nat), m < l.length ∧ iter (api_List__v2_b0 l ((l.length : Nat) : Int)) ((k : Int), n) = some (.inl ((m : Int), n)) ∧ (∀ x ∈ l.take m, keepD n x = true) ∧ keepD n (l.getD m zL) = false := by
  intro r
  induction r with
  | nil =>
    intro k h ht
    have hk := drop_nil h
    left
    refine ⟨iter_inr ?_, fun x hx => ht x ?_⟩
    · unfold api_List__v2_b0
      simp [show ¬ k < l.length by omega]
    · rw [List.take_of_length_le hk]; exact hx
  | cons y r ih =>
    intro k h ht
    obtain ⟨g1, g2, g3⟩ := drop_cons h zL
    have g2' : l.getD k ([], []) = y := g2
    by_cases hy : y.1 = n
    · right
      refine ⟨k, g1, iter_inr ?_, ht, ?_⟩
      · unfold api_List__v2_b0 lists_Drop_1
        simp only [natlt, g1, decide_true, cond_true, Int.natCast_nonneg, true_and, if_true, Int.toNat_natCast, g2', hy, Option.bind_some]
      · unfold keepD keyL
        rw [g2, decide_eq_true hy]; rfl
    · have hb : api_List__v2_b0 l ((l.length : Nat) : Int) ((k : Int), n) = some (.inl (((k + 1 : Nat) : Int), n)) := by
        unfold api_List__v2_b0 lists_Drop_1
        simp only [natlt, g1, decide_true, cond_true, Int.natCast_nonneg, true_and, if_true, Int.toNat_natCast, g2', hy, decide_false, Option.bind_some, cond_false, kplus g1 (by omega)]
      rw [iter_inl hb]
      refine ih (k + 1) g3 fun x hx => ?_
      rw [List.take_add_one, List.mem_append] at hx
      rcases hx with hx | hx
      · exact ht x hx
      · have : l[k]? = some y := by
          rw [List.getElem?_eq_getElem g1]
          rw [List.getD_eq_getElem?_getD, List.getElem?_eq_getElem g1] at g2
          exact congrArg some g2
        rw [this] at hx
        simp only [Option.toList_some, List.mem_singleton] at hx
        subst hx
        unfold keepD keyL
        rw [decide_eq_false hy]; rfl

theorem delD_loop (n : List UInt8) (l : List Ls) (hl : l.length ≤ 10000) : ∀ (r : List Ls) (j i : Nat) (c : List Ls), l.drop j = r → i ≤ j → j ≤ l.length → c.length = l.length → c.drop j = l.drop j → c.take i = (l.take j).filter (keepD n) →
    ∃ (i' : Nat) (c' : List Ls), iter api_List__51_b0 ((i : Int), (j : Int), n, c) = some ((i' : Int), n, c') ∧ i' ≤ c'.length ∧ c'.take i' = l.filter (keepD n) := by
  intro r
  induction r with
  | nil =>
    intro j i c h hij hj hc hd ht
    have hk := drop_nil h
    refine ⟨i, c, iter_inr ?_, by omega, ?_⟩
    · unfold api_List__51_b0
      simp only [Prod.snd, Prod.fst]
      rw [decide_eq_false (by omega)]
      rfl
    · rw [ht, List.take_of_length_le hk]
  | cons y r ih =>
    intro j i c h hij hj hc hd ht
    obtain ⟨g1, g2, g3⟩ := drop_cons h zL
    obtain ⟨k1, k2, k3⟩ := drop_cons (hd.trans h) zL
    have k2' : c.getD j ([], []) = y := k2
    have hlj : l[j]? = some y := by
      rw [List.getElem?_eq_getElem g1]
      rw [List.getD_eq_getElem?_getD, List.getElem?_eq_getElem g1] at g2
      exact congrArg some g2
    by_cases hy : y.1 = n
    · have hb : api_List__51_b0 ((i : Int), (j : Int), n, c) = some (.inl ((i : Int), ((j + 1 : Nat) : Int), n, c)) := by
        unfold api_List__51_b0 lists_Drop_1
        simp only [Prod.snd, Prod.fst]
        rw [decide_eq_true (by omega), if_pos (by omega), if_pos (by rw [Int.toNat_natCast]; omega), kplus k1 (by omega)]
        simp only [cond_true, Option.bind_some, Int.toNat_natCast, Nat.zero_add, k2', hy, decide_true, Bool.not_true, cond_false]
      rw [iter_inl hb]
      refine ih (j + 1) i c g3 (by omega) (by omega) hc ?_ ?_
      · rw [← List.drop_drop, hd, List.drop_drop]
      · rw [ht, List.take_add_one, hlj]
        simp [keepD, keyL, hy]
    · have hb : api_List__51_b0 ((i : Int), (j : Int), n, c) = some (.inl (((i + 1 : Nat) : Int), ((j + 1 : Nat) : Int), n, c.set i y)) := by
        unfold api_List__51_b0 lists_Drop_1
        simp only [Prod.snd, Prod.fst]
        rw [decide_eq_true (by omega), if_pos (by omega), if_pos (by rw [Int.toNat_natCast]; omega), kplus k1 (by omega), kplus (show i < c.length by omega) (by omega)]
        simp only [cond_true, Option.bind_some, Int.toNat_natCast, Nat.zero_add, k2', hy, decide_false, Bool.not_false, cond_true]
        rw [if_pos (by omega), if_pos (by omega)]
      rw [iter_inl hb]
      refine ih (j + 1) (i + 1) (c.set i y) g3 (by omega) (by omega) (by simpa using hc) ?_ ?_
      · rw [List.drop_set_of_lt (by omega), ← List.drop_drop, hd, List.drop_drop]
      · rw [List.take_add_one, List.take_set_of_le (Nat.le_refl i), ht, List.take_add_one, hlj, List.filter_append]
        simp only [List.getElem?_set_self (show i < c.length by omega), Option.toList_some]
        simp [keepD, keyL, hy]

theorem dropD_eq (l : List Ls) (n : List UInt8) (hl : l.length ≤ 10000) : lists_Drop l n = some (dropD l n) := by
  unfold lists_Drop api_List__51 api_List__v2
  rw [cloneD_eq l hl]
  simp only [Option.bind_some, List.drop_zero]
  rcases delD_index l n hl l 0 rfl (by simp) with ⟨h1, h2⟩ | ⟨m, hm, h1, h2, h3⟩
  · have h1' : iter (api_List__v2_b0 l ((l.length : Nat) : Int)) ((0 : Int), n) = some (.inr n) := h1
    rw [h1']
    simp only [Option.bind_some, Sum.elim_inr, decide_true, cond_true]
    congr 1
    unfold dropD
    exact (List.filter_eq_self.mpr h2).symm
  · have h1' : iter (api_List__v2_b0 l ((l.length : Nat) : Int)) ((0 : Int), n) = some (.inl ((m : Int), n)) := h1
    rw [h1']
    simp only [Option.bind_some, Sum.elim_inl]
    rw [decide_eq_false (show ¬ (m : Int) = -1 by omega), kplus hm (by omega)]
    simp only [cond_false]
    have hlm : l[m]? = some (l.getD m zL) := by
      rw [List.getElem?_eq_getElem hm, List.getD_eq_getElem?_getD, List.getElem?_eq_getElem hm]; rfl
    obtain ⟨i', c', e1, e2, e3⟩ := delD_loop n l hl _ (m + 1) m l rfl (by omega) (by omega) rfl rfl (by
      rw [List.take_add_one, hlm, List.filter_append, List.filter_eq_self.mpr h2, Option.toList_some, List.filter_cons_of_neg (by rw [h3]; simp), List.filter_nil, List.append_nil])
    rw [e1]
    simp only [Option.bind_some]
    rw [if_pos (by omega), if_pos (by simp; omega)]
    simp only [Option.bind_some, Int.toNat_natCast, Nat.zero_add]
    congr 1
    rw [List.take_append_of_le_length (by simp; omega), List.take_take, Nat.min_self, e3]
    rfl

theorem refDropD_loop (l : List Ls) (n : List UInt8) (hl : l.length ≤ 10000) : ∀ (r : List Ls) (k : Nat) (out : List Ls), l.drop k = r → out.length ≤ k →
    iter (cellarerref13_Drop_b0 l n) ((k : Int), out) = some (out ++ r.filter fun y => !keyL n y) := by
  intro r
  induction r with
  | nil =>
    intro k out h ho
    have := drop_nil h
    rw [iter_inr (t := out)]
    · simp
    · unfold cellarerref13_Drop_b0
      simp [show ¬ k < l.length by omega]
  | cons y r ih =>
    intro k out h ho
    obtain ⟨g1, g2, g3⟩ := drop_cons h ([], [])
    by_cases hy : y.1 = n
    · have hb : cellarerref13_Drop_b0 l n ((k : Int), out) = some (.inl (((k + 1 : Nat) : Int), out)) := by
        unfold cellarerref13_Drop_b0
        simp only [natlt, g1, decide_true, cond_true, Int.natCast_nonneg, true_and, if_true, Int.toNat_natCast, g2, kplus g1 (by omega), hy, Bool.not_true, cond_false]
      rw [iter_inl hb, ih (k + 1) out g3 (by omega)]
      simp [keyL, hy]
    · have hb : cellarerref13_Drop_b0 l n ((k : Int), out) = some (.inl (((k + 1 : Nat) : Int), out ++ [y])) := by
        unfold cellarerref13_Drop_b0
        simp only [natlt, g1, decide_true, cond_true, Int.natCast_nonneg, true_and, if_true, Int.toNat_natCast, g2, kplus g1 (by omega), hy, decide_false, Bool.not_false]
        rw [if_pos (by simp; omega)]
      rw [iter_inl hb, ih (k + 1) (out ++ [y]) g3 (by simp; omega)]
      simp [keyL, hy]

theorem refDropD_eq (l : List Ls) (n : List UInt8) (hl : l.length ≤ 10000) : cellarerref13_Drop l n = some (dropD l n) := by
  unfold cellarerref13_Drop
  have h : iter (cellarerref13_Drop_b0 l n) ((0 : Int), []) = _ := refDropD_loop l n hl l 0 [] rfl (by simp)
  rw [h]
  simp [dropD]

/-! ### the law -/

theorem lmem_len {l : List Ls} {x : Ls} (h : x ∈ l) (hf : ∀ y ∈ l, FactL y) : x.2.length < 1000002 := by have := (hf x h).2.1; omega

theorem ListsPuts_true (l : List Ls) (a : List UInt8) (b : List (List UInt8)) (p : List UInt8) : cellarerlaw13_ListsPuts l a b p = some true := by
  unfold cellarerlaw13_ListsPuts
  obtain ⟨b1, e1, f1⟩ := few13 l
  obtain ⟨b2, e2, f2⟩ := few13 [(a, b)]
  rw [e1, awake13, e2]
  cases b1 with
  | false => rfl
  | true =>
    cases b2 with
    | false => rfl
    | true =>
      by_cases hp : (300 : Int) < (p.length : Int)
      · simp only [Option.bind_some, Bool.not_true, cond_false]
        rw [decide_eq_true hp]; rfl
      · simp only [Option.bind_some, Bool.not_true, cond_false]
        rw [decide_eq_false hp]
        simp only [cond_false, Option.bind_some, Sum.elim_inr]
        obtain ⟨hl, hf⟩ := f1 rfl
        have hx := (f2 rfl).2 (a, b) (by simp)
        have hl' : l.length ≤ 10000 := by omega
        have hpl := putG_len (keyL a) (gtD a) (a, b) l
        have hpl' : (putD l (a, b)).length ≤ 71 := by
          show (putG (keyL a) (gtD a) (a, b) l).length ≤ 71
          omega
        have hdl : (dropD l p).length ≤ 70 := Nat.le_trans (List.length_filter_le _ _) hl
        have hpm : ∀ y ∈ putD l (a, b), y.2.length < 1000002 := by
          intro y hy
          have hy' : y ∈ l ∨ y = (a, b) := by
            unfold putD putG at hy
            split at hy
            · rcases List.mem_or_eq_of_mem_set hy with h | h
              · exact .inl h
              · exact .inr h
            · unfold insOne at hy
              rw [List.mem_append, List.mem_cons] at hy
              rcases hy with h | h | h
              · exact .inl (List.mem_of_mem_take h)
              · exact .inr h
              · exact .inl (List.mem_of_mem_drop h)
          rcases hy' with h | rfl
          · exact lmem_len h hf
          · have := hx.2.1; omega
        have hdm : ∀ y ∈ dropD l p, y.2.length < 1000002 := fun y hy => lmem_len (List.mem_filter.mp hy).1 hf
        obtain ⟨i, h1, h2⟩ := putG_found (keyL a) (gtD a) (a, b) (by simp [keyL]) l
        have h1' : firstG (keyL a) (putD l (a, b)) 0 = some i := h1
        have hd : firstG (keyL p) (dropD l p) 0 = none := dropG_none (keyL p) l
        rw [putD_eq l a b hl', dropD_eq l p hl', refPutD_eq l a b hl', refDropD_eq l p hl', findG l p hl', refFindG l p hl']
        simp only [Option.bind_some, List.drop_zero, lsame_refl _ (show (putD l (a, b)).length < 1000002 by omega) hpm, lsame_refl _ (show (dropD l p).length < 1000002 by omega) hdm, decide_true, cond_true]
        rw [findG _ a (by omega), findG _ p (by omega), h1', hd]
        simp only [Option.bind_some]
        rw [decide_eq_true (show 0 ≤ idxG (some i) by simp [idxG]), decide_eq_true (show idxG none < 0 by simp [idxG])]
        rfl

end Go.Cellar
