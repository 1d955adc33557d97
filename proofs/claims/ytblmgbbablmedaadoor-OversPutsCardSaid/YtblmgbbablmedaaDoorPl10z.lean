/- Overrides with one more, and without a path. No condition. -/
import Derived.Test.YtblmgbbablmedaaDoorPl10o
import Derived.Test.YtblmgbbablmedaaDoorPlput
set_option linter.unusedSimpArgs false
set_option linter.unusedVariables false
set_option maxRecDepth 8000
namespace Go.Cellar
open Go

def keyD (p : List UInt8) (x : Ov) : Bool := decide (x.1 = p)
def gtD (p : List UInt8) (x : Ov) : Bool := !(Go.Op.bytesLess x.1 p || decide (x.1 = p))

theorem firstG_firstO (p : List UInt8) : ∀ (l : List Ov) (k : Nat), firstO p l k = firstG (keyD p) l k
  | [], _ => rfl
  | x :: r, k => by
    unfold firstO firstG
    rw [firstG_firstO p r (k + 1)]
    by_cases hx : x.1 = p
    · rw [if_pos hx, if_pos (by simp [keyD, hx])]
    · rw [if_neg hx, if_neg (by simp [keyD, hx])]

theorem idxG_idxO (o : Option Nat) : idxO o = idxG o := by cases o <;> rfl

theorem findG (l : List Ov) (p : List UInt8) (hl : l.length ≤ 10000) : overs_Find l p = some (idxG (firstG (keyD p) l 0)) := by
  rw [findO_eq l p hl, idxG_idxO, firstG_firstO]
theorem refFindG (l : List Ov) (p : List UInt8) (hl : l.length ≤ 10000) : cellarerref10_Find l p = some (idxG (firstG (keyD p) l 0)) := by
  rw [refFindO_eq l p hl, idxG_idxO, firstG_firstO]

theorem cloneD_eq (l : List Ov) (hl : l.length ≤ 10000) : api_Over__40 l = some l := by
  unfold api_Over__40
  rw [if_pos (by omega)]
  cases l with
  | nil => unfold mayb both; simp
  | cons x l => rfl

theorem putIdx_loop (l : List Ov) (a : List UInt8) (b c d : Int) (hl : l.length ≤ 10000) : ∀ (r : List Ov) (k : Nat), l.drop k = r →
    iter (api_Over__v1_b0 l (l.length : Int)) ((k : Int), a, b, c, d) = some (match firstG (gtD a) r k with | some i => .inl ((i : Int), a, b, c, d) | none => .inr (a, b, c, d)) := by
  intro r
  induction r with
  | nil =>
    intro k h
    have := drop_nil h
    rw [iter_inr (t := .inr (a, b, c, d))]
    · rfl
    · unfold api_Over__v1_b0
      simp [show ¬ k < l.length by omega]
  | cons x r ih =>
    intro k h
    obtain ⟨g1, g2, g3⟩ := drop_cons h ([], 0, 0, 0)
    cases hx : gtD a x with
    | true =>
      have hx' : (!(Go.Op.bytesLess x.1 a || decide (x.1 = a))) = true := hx
      rw [iter_inr (t := .inl ((k : Int), a, b, c, d))]
      · simp [firstG, hx]
      · unfold api_Over__v1_b0 overs_Put_1
        simp only [natlt, g1, decide_true, cond_true, Int.natCast_nonneg, true_and, if_true, Int.toNat_natCast, g2, Option.bind_some, hx']
    | false =>
      have hx' : (!(Go.Op.bytesLess x.1 a || decide (x.1 = a))) = false := hx
      rw [iter_inl (s' := (((k + 1 : Nat) : Int), a, b, c, d)), ih (k + 1) g3]
      · simp [firstG, hx]
      · unfold api_Over__v1_b0 overs_Put_1
        simp only [natlt, g1, decide_true, cond_true, Int.natCast_nonneg, true_and, if_true, Int.toNat_natCast, g2, Option.bind_some, hx', cond_false, kplus g1 (by omega)]

def putD (l : List Ov) (x : Ov) : List Ov := putG (keyD x.1) (gtD x.1) x l

theorem insD_eq (l : List Ov) (n : Nat) (x : Ov) (hl : l.length ≤ 10000) (hn : n ≤ l.length) : api_Over__43 (n : Int) [x] l = some (insOne l n x) := by
  unfold api_Over__43
  dsimp only
  rw [if_pos (by omega), Int.toNat_natCast]

theorem putD_eq (l : List Ov) (a : List UInt8) (b c d : Int) (hl : l.length ≤ 10000) : overs_Put l a b c d = some (putD l (a, b, c, d)) := by
  unfold overs_Put
  rw [cloneD_eq l hl, findG l a hl]
  simp only [Option.bind_some]
  unfold putD putG
  cases h : firstG (keyD a) l 0 with
  | some i =>
    have hi := firstG_lt _ l i h
    obtain ⟨z, hz⟩ : ∃ z, z = idxG (some i) := ⟨_, rfl⟩
    have hz' : z = (i : Int) := hz
    rw [← hz, decide_eq_true (show 0 ≤ z by omega), if_pos (by omega), if_pos (by omega), show z.toNat = i by omega]
    simp only [cond_true, Nat.zero_add]
  | none =>
    obtain ⟨z, hz⟩ : ∃ z, z = idxG none := ⟨_, rfl⟩
    have hz' : z = (-1 : Int) := hz
    rw [← hz, decide_eq_false (show ¬ 0 ≤ z by omega)]
    simp only [cond_false]
    unfold api_Over__v1
    have hp : iter (api_Over__v1_b0 l (l.length : Int)) ((0 : Int), a, b, c, d) = _ := putIdx_loop l a b c d hl l 0 rfl
    rw [hp]
    cases hg : firstG (gtD a) l 0 with
    | some j =>
      have hj := firstG_lt _ l j hg
      simp only [Option.bind_some, Sum.elim_inl]
      rw [decide_eq_false (by omega)]
      simp only [cond_false]
      rw [insD_eq l j _ hl (by omega)]
      rfl
    | none =>
      simp only [Option.bind_some, Sum.elim_inr]
      rw [decide_eq_true (by omega)]
      simp only [cond_true]
      rw [insD_eq l l.length _ hl (Nat.le_refl _)]
      rfl

theorem refPut_loop (l : List Ov) (old : Int) (a : List UInt8) (b c d : Int) (hl : l.length ≤ 10000) : ∀ (r : List Ov) (k : Nat) (p : Bool) (out : List Ov), l.drop k = r → k ≤ l.length → out.length ≤ 2 * k →
    ∃ p' out', iter (cellarerref10_Put_b0 l old a b c d) (p, (k : Int), out) = some (p', out') ∧ (if p' then out' else out' ++ [(a, b, c, d)]) = out ++ goP (gtD a) (a, b, c, d) old r k p ∧ out'.length ≤ 2 * l.length := by
  intro r
  induction r with
  | nil =>
    intro k p out h hkl ho
    have := drop_nil h
    refine ⟨p, out, iter_inr ?_, ?_, by omega⟩
    · unfold cellarerref10_Put_b0
      simp [show ¬ k < l.length by omega]
    · cases p <;> simp [goP]
  | cons y r ih =>
    intro k p out h hkl ho
    obtain ⟨g1, g2, g3⟩ := drop_cons h ([], 0, 0, 0)
    obtain ⟨y1, y2, y3, y4⟩ := y
    have hb : cellarerref10_Put_b0 l old a b c d (p, (k : Int), out) = some (.inl (p || gtD a (y1, y2, y3, y4), ((k + 1 : Nat) : Int), (out ++ (if !p && gtD a (y1, y2, y3, y4) then [(a, b, c, d)] else [])) ++ [if (k : Int) = old then (a, b, c, d) else (y1, y2, y3, y4)])) := by
      unfold cellarerref10_Put_b0
      simp only [natlt, g1, decide_true, cond_true, Int.natCast_nonneg, true_and, if_true, Int.toNat_natCast, g2, kplus g1 (by omega), List.length_append, List.length_cons, List.length_nil]
      have e : gtD a (y1, y2, y3, y4) = !(Go.Op.bytesLess y1 a || decide (y1 = a)) := rfl
      rw [e]
      cases p with
      | true =>
        simp only [Bool.not_true, cond_false, Option.bind_some, Bool.true_or, Bool.false_and, Bool.false_eq_true, if_false, List.append_nil]
        rw [if_pos (by omega), if_pos (by omega)]
        by_cases hk : (k : Int) = old
        · rw [decide_eq_true hk, if_pos hk]; rfl
        · rw [decide_eq_false hk, if_neg hk]; rfl
      | false =>
        cases hg : (!(Go.Op.bytesLess y1 a || decide (y1 = a))) with
        | true =>
          simp only [Bool.not_false, cond_true, Bool.false_or, Bool.true_and, if_true]
          rw [if_pos (by omega)]
          simp only [Option.bind_some, List.length_append, List.length_cons, List.length_nil]
          rw [if_pos (by omega), if_pos (by omega)]
          by_cases hk : (k : Int) = old
          · rw [decide_eq_true hk, if_pos hk]; rfl
          · rw [decide_eq_false hk, if_neg hk]; rfl
        | false =>
          simp only [Bool.not_false, cond_true, cond_false, Bool.false_or, Bool.true_and, Bool.false_eq_true, if_false, Option.bind_some, List.append_nil]
          rw [if_pos (by omega), if_pos (by omega)]
          by_cases hk : (k : Int) = old
          · rw [decide_eq_true hk, if_pos hk]; rfl
          · rw [decide_eq_false hk, if_neg hk]; rfl
    rw [iter_inl hb]
    obtain ⟨O, hO⟩ : ∃ O, O = (out ++ (if !p && gtD a (y1, y2, y3, y4) then [(a, b, c, d)] else [])) ++ [if (k : Int) = old then (a, b, c, d) else (y1, y2, y3, y4)] := ⟨_, rfl⟩
    have hOl : O.length ≤ 2 * (k + 1) := by
      rw [hO]
      simp only [List.length_append, List.length_cons, List.length_nil]
      split <;> simp <;> omega
    rw [← hO]
    obtain ⟨p', out', h1, h2, h3⟩ := ih (k + 1) (p || gtD a (y1, y2, y3, y4)) O g3 (by omega) hOl
    refine ⟨p', out', h1, ?_, by omega⟩
    rw [h2, hO]
    simp only [goP, List.append_assoc, List.singleton_append]

theorem refPutD_eq (l : List Ov) (a : List UInt8) (b c d : Int) (hl : l.length ≤ 10000) : cellarerref10_Put l a b c d = some (putD l (a, b, c, d)) := by
  unfold cellarerref10_Put
  rw [refFindG l a hl]
  simp only [Option.bind_some]
  obtain ⟨p', out', h1, h2, h3⟩ := refPut_loop l (idxG (firstG (keyD a) l 0)) a b c d hl l 0 (decide (0 ≤ idxG (firstG (keyD a) l 0))) [] rfl (by simp) (by simp)
  have h1' : iter (cellarerref10_Put_b0 l (idxG (firstG (keyD a) l 0)) a b c d) (decide (0 ≤ idxG (firstG (keyD a) l 0)), (0 : Int), []) = some (p', out') := h1
  rw [h1', goP_eq, List.nil_append] at *
  simp only [Option.bind_some]
  unfold putD
  rw [← h2]
  cases p' with
  | true => rfl
  | false =>
    simp only [Bool.not_false, cond_true, Bool.false_eq_true, if_false, List.length_cons, List.length_nil]
    rw [if_pos (by omega)]

/-! ### without a path -/

def keepD (p : List UInt8) (x : Ov) : Bool := !keyD p x
def dropD (l : List Ov) (p : List UInt8) : List Ov := l.filter fun y => !keyD p y

theorem delD_index (l : List Ov) (n : List UInt8) (hl : l.length ≤ 10000) : ∀ (r : List Ov) (k : Nat), l.drop k = r → (∀ x ∈ l.take k, keepD n x = true) →
    (iter (api_Over__v2_b0 l ((l.length : Nat) : Int)) ((k : Int), n) = some (.inr n) ∧ ∀ x ∈ l, keepD n x = true) ∨
    ∃ (m : Nat), m < l.length ∧ iter (api_Over__v2_b0 l ((l.length : Nat) : Int)) ((k : Int), n) = some (.inl ((m : Int), n)) ∧ (∀ x ∈ l.take m, keepD n x = true) ∧ keepD n (l.getD m zO) = false := by
  intro r
  induction r with
  | nil =>
    intro k h ht
    have hk := drop_nil h
    left
    refine ⟨iter_inr ?_, fun x hx => ht x ?_⟩
    · unfold api_Over__v2_b0
      simp [show ¬ k < l.length by omega]
    · rw [List.take_of_length_le hk]; exact hx
  | cons y r ih =>
    intro k h ht
    obtain ⟨g1, g2, g3⟩ := drop_cons h zO
    have g2' : l.getD k ([], 0, 0, 0) = y := g2
    by_cases hy : y.1 = n
    · right
      refine ⟨k, g1, iter_inr ?_, ht, ?_⟩
      · unfold api_Over__v2_b0 overs_Drop_1
        simp only [natlt, g1, decide_true, cond_true, Int.natCast_nonneg, true_and, if_true, Int.toNat_natCast, g2', hy, Option.bind_some]
      · unfold keepD keyD
        rw [g2, decide_eq_true hy]; rfl
    · have hb : api_Over__v2_b0 l ((l.length : Nat) : Int) ((k : Int), n) = some (.inl (((k + 1 : Nat) : Int), n)) := by
        unfold api_Over__v2_b0 overs_Drop_1
        simp only [natlt, g1, decide_true, cond_true, Int.natCast_nonneg, true_and, if_true, Int.toNat_natCast, g2', hy, decide_false, Option.bind_some, cond_false, kplus g1 (by omega)]
      rw [iter_inl hb]
      refine ih (k + 1) g3 fun x hx => ?_
      rw [List.take_add_one, List.mem_append] at hx
      rcases hx with hx | hx
      · exact ht x hx
      · have : l[k]? = some y := by
          rw [List.getElem?_eq_getElem g1]
          rw [List.getD_eq_getElem?_getD, List.getElem?_eq_getElem g1] at g2
          exact congrArg some g2
        rw [this] at hx
        simp only [Option.toList_some, List.mem_singleton] at hx
        subst hx
        unfold keepD keyD
        rw [decide_eq_false hy]; rfl

theorem delD_loop (n : List UInt8) (l : List Ov) (hl : l.length ≤ 10000) : ∀ (r : List Ov) (j i : Nat) (c : List Ov), l.drop j = r → i ≤ j → j ≤ l.length → c.length = l.length → c.drop j = l.drop j → c.take i = (l.take j).filter (keepD n) →
    ∃ (i' : Nat) (c' : List Ov), iter api_Over__44_b0 ((i : Int), (j : Int), n, c) = some ((i' : Int), n, c') ∧ i' ≤ c'.length ∧ c'.take i' = l.filter (keepD n) := by
  intro r
  induction r with
  | nil =>
    intro j i c h hij hj hc hd ht
    have hk := drop_nil h
    refine ⟨i, c, iter_inr ?_, by omega, ?_⟩
    · unfold api_Over__44_b0
      simp only [Prod.snd, Prod.fst]
      rw [decide_eq_false (by omega)]
      rfl
    · rw [ht, List.take_of_length_le hk]
  | cons y r ih =>
    intro j i c h hij hj hc hd ht
    obtain ⟨g1, g2, g3⟩ := drop_cons h zO
    obtain ⟨k1, k2, k3⟩ := drop_cons (hd.trans h) zO
    have k2' : c.getD j ([], 0, 0, 0) = y := k2
    have hlj : l[j]? = some y := by
      rw [List.getElem?_eq_getElem g1]
      rw [List.getD_eq_getElem?_getD, List.getElem?_eq_getElem g1] at g2
      exact congrArg some g2
    by_cases hy : y.1 = n
    · have hb : api_Over__44_b0 ((i : Int), (j : Int), n, c) = some (.inl ((i : Int), ((j + 1 : Nat) : Int), n, c)) := by
        unfold api_Over__44_b0 overs_Drop_1
        simp only [Prod.snd, Prod.fst]
        rw [decide_eq_true (by omega), if_pos (by omega), if_pos (by rw [Int.toNat_natCast]; omega), kplus k1 (by omega)]
        simp only [cond_true, Option.bind_some, Int.toNat_natCast, Nat.zero_add, k2', hy, decide_true, Bool.not_true, cond_false]
      rw [iter_inl hb]
      refine ih (j + 1) i c g3 (by omega) (by omega) hc ?_ ?_
      · rw [← List.drop_drop, hd, List.drop_drop]
      · rw [ht, List.take_add_one, hlj]
        simp [keepD, keyD, hy]
    · have hb : api_Over__44_b0 ((i : Int), (j : Int), n, c) = some (.inl (((i + 1 : Nat) : Int), ((j + 1 : Nat) : Int), n, c.set i y)) := by
        unfold api_Over__44_b0 overs_Drop_1
        simp only [Prod.snd, Prod.fst]
        rw [decide_eq_true (by omega), if_pos (by omega), if_pos (by rw [Int.toNat_natCast]; omega), kplus k1 (by omega), kplus (show i < c.length by omega) (by omega)]
        simp only [cond_true, Option.bind_some, Int.toNat_natCast, Nat.zero_add, k2', hy, decide_false, Bool.not_false, cond_true]
        rw [if_pos (by omega), if_pos (by omega)]
      rw [iter_inl hb]
      refine ih (j + 1) (i + 1) (c.set i y) g3 (by omega) (by omega) (by simpa using hc) ?_ ?_
      · rw [List.drop_set_of_lt (by omega), ← List.drop_drop, hd, List.drop_drop]
      · rw [List.take_add_one, List.take_set_of_le (Nat.le_refl i), ht, List.take_add_one, hlj, List.filter_append]
        simp only [List.getElem?_set_self (show i < c.length by omega), Option.toList_some]
        simp [keepD, keyD, hy]

theorem dropD_eq (l : List Ov) (n : List UInt8) (hl : l.length ≤ 10000) : overs_Drop l n = some (dropD l n) := by
  unfold overs_Drop api_Over__44 api_Over__v2
  rw [cloneD_eq l hl]
  simp only [Option.bind_some, List.drop_zero]
  rcases delD_index l n hl l 0 rfl (by simp) with ⟨h1, h2⟩ | ⟨m, hm, h1, h2, h3⟩
  · have h1' : iter (api_Over__v2_b0 l ((l.length : Nat) : Int)) ((0 : Int), n) = some (.inr n) := h1
    rw [h1']
    simp only [Option.bind_some, Sum.elim_inr, decide_true, cond_true]
    congr 1
    unfold dropD
    exact (List.filter_eq_self.mpr h2).symm
  · have h1' : iter (api_Over__v2_b0 l ((l.length : Nat) : Int)) ((0 : Int), n) = some (.inl ((m : Int), n)) := h1
    rw [h1']
    simp only [Option.bind_some, Sum.elim_inl]
    rw [decide_eq_false (show ¬ (m : Int) = -1 by omega), kplus hm (by omega)]
    simp only [cond_false]
    have hlm : l[m]? = some (l.getD m zO) := by
      rw [List.getElem?_eq_getElem hm, List.getD_eq_getElem?_getD, List.getElem?_eq_getElem hm]; rfl
    obtain ⟨i', c', e1, e2, e3⟩ := delD_loop n l hl _ (m + 1) m l rfl (by omega) (by omega) rfl rfl (by
      rw [List.take_add_one, hlm, List.filter_append, List.filter_eq_self.mpr h2, Option.toList_some, List.filter_cons_of_neg (by rw [h3]; simp), List.filter_nil, List.append_nil])
    rw [e1]
    simp only [Option.bind_some]
    rw [if_pos (by omega), if_pos (by simp; omega)]
    simp only [Option.bind_some, Int.toNat_natCast, Nat.zero_add]
    congr 1
    rw [List.take_append_of_le_length (by simp; omega), List.take_take, Nat.min_self, e3]
    rfl

theorem refDropD_loop (l : List Ov) (n : List UInt8) (hl : l.length ≤ 10000) : ∀ (r : List Ov) (k : Nat) (out : List Ov), l.drop k = r → out.length ≤ k →
    iter (cellarerref10_Drop_b0 l n) ((k : Int), out) = some (out ++ r.filter fun y => !keyD n y) := by
  intro r
  induction r with
  | nil =>
    intro k out h ho
    have := drop_nil h
    rw [iter_inr (t := out)]
    · simp
    · unfold cellarerref10_Drop_b0
      simp [show ¬ k < l.length by omega]
  | cons y r ih =>
    intro k out h ho
    obtain ⟨g1, g2, g3⟩ := drop_cons h ([], 0, 0, 0)
    by_cases hy : y.1 = n
    · have hb : cellarerref10_Drop_b0 l n ((k : Int), out) = some (.inl (((k + 1 : Nat) : Int), out)) := by
        unfold cellarerref10_Drop_b0
        simp only [natlt, g1, decide_true, cond_true, Int.natCast_nonneg, true_and, if_true, Int.toNat_natCast, g2, kplus g1 (by omega), hy, Bool.not_true, cond_false]
      rw [iter_inl hb, ih (k + 1) out g3 (by omega)]
      simp [keyD, hy]
    · have hb : cellarerref10_Drop_b0 l n ((k : Int), out) = some (.inl (((k + 1 : Nat) : Int), out ++ [y])) := by
        unfold cellarerref10_Drop_b0
        simp only [natlt, g1, decide_true, cond_true, Int.natCast_nonneg, true_and, if_true, Int.toNat_natCast, g2, kplus g1 (by omega), hy, decide_false, Bool.not_false]
        rw [if_pos (by simp; omega)]
      rw [iter_inl hb, ih (k + 1) (out ++ [y]) g3 (by simp; omega)]
      simp [keyD, hy]

theorem refDropD_eq (l : List Ov) (n : List UInt8) (hl : l.length ≤ 10000) : cellarerref10_Drop l n = some (dropD l n) := by
  unfold cellarerref10_Drop
  have h : iter (cellarerref10_Drop_b0 l n) ((0 : Int), []) = _ := refDropD_loop l n hl l 0 [] rfl (by simp)
  rw [h]
  simp [dropD]

/-! ### the law -/

theorem OversPuts_true (l : List Ov) (a : List UInt8) (b c d : Int) (p : List UInt8) : cellarerlaw10_OversPuts l a b c d p = some true := by
  unfold cellarerlaw10_OversPuts
  rw [fewO_eq, awake10, fewO_eq]
  cases hf : fewO l with
  | false => rfl
  | true =>
    cases hf2 : fewO [(a, b, c, d)] with
    | false => rfl
    | true =>
      by_cases hp : (300 : Int) < (p.length : Int)
      · simp only [Option.bind_some, Bool.not_true, cond_false]
        rw [decide_eq_true hp]; rfl
      · simp only [Option.bind_some, Bool.not_true, cond_false]
        rw [decide_eq_false hp]
        simp only [cond_false, Option.bind_some, Sum.elim_inr]
        have hl := (fewO_sh hf).2.1
        have hx := (fewO_sh hf2).1.2 (a, b, c, d) (by simp)
        have hl' : l.length ≤ 10000 := by omega
        have hpl := putG_len (keyD a) (gtD a) (a, b, c, d) l
        have hpl' : (putD l (a, b, c, d)).length ≤ 71 := by
          show (putG (keyD a) (gtD a) (a, b, c, d) l).length ≤ 71
          omega
        have hdl : (dropD l p).length ≤ 70 := Nat.le_trans (List.length_filter_le _ _) hl
        have hx' : a.length ≤ 10000 := hx
        rw [putD_eq l a b c d hl', dropD_eq l p hl', refPutD_eq l a b c d hl', refDropD_eq l p hl', findG l p hl', refFindG l p hl', ovRight_eq a b c d hx', refOvRight_eq a b c d hx']
        simp only [Option.bind_some, List.drop_zero, osame_eq _ _ (show (putD l (a, b, c, d)).length < 1000002 by omega), osame_eq _ _ (show (dropD l p).length < 1000002 by omega), decide_true, Bool.not_true, cond_false, Sum.elim_inr]
        obtain ⟨i, h1, h2⟩ := putG_found (keyD a) (gtD a) (a, b, c, d) (by simp [keyD]) l
        have h1' : firstO a (putD l (a, b, c, d)) 0 = some i := by rw [firstG_firstO]; exact h1
        have h2' : (putD l (a, b, c, d)).getD i ([], 0, 0, 0) = (a, b, c, d) := by
          rw [List.getD_eq_getElem?_getD]
          show ((putG (keyD a) (gtD a) (a, b, c, d) l)[i]?).getD _ = _
          rw [h2]; rfl
        have hm : metaV (putD l (a, b, c, d)) a (0, 0, 0) = (b, c, d) := by
          unfold metaV
          rw [h1']
          dsimp only
          rw [h2']
        have hd : firstG (keyD p) (dropD l p) 0 = none := dropG_none (keyD p) l
        rw [meta_eq _ a 0 0 0 (by omega), hm, findG _ p (by omega), hd]
        simp only [Option.bind_some, decide_true, Bool.and_self, cond_true]
        rw [decide_eq_true (show idxG none < 0 by simp [idxG])]
        rfl

end Go.Cellar
