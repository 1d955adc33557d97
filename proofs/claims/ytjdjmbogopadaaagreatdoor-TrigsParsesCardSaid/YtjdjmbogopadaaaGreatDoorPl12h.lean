/- Interests with others of a package; a package's, and a trigger's. No condition. -/
import Derived.Test.YtjdjmbogopadaaaGreatDoorPl12g
import Derived.Test.YtjdjmbogopadaaaGreatDoorPlput
set_option linter.unusedSimpArgs false
set_option linter.unusedVariables false
set_option maxRecDepth 8000
namespace Go.Cellar
open Go

theorem pick_loop {α β : Type} (B : Int × List β → Option ((Int × List β) ⊕ List β)) (p : α → Bool) (f : α → β) (l : List α)
    (hend : ∀ (k : Nat) (out : List β), l.length ≤ k → B ((k : Int), out) = some (.inr out))
    (hgo : ∀ (k : Nat) (c : α) (r : List α) (out : List β), l.drop k = c :: r → out.length ≤ k → B ((k : Int), out) = some (.inl (((k + 1 : Nat) : Int), if p c = true then out ++ [f c] else out))) :
    ∀ (r : List α) (k : Nat) (out : List β), l.drop k = r → out.length ≤ k → iter B ((k : Int), out) = some (out ++ (r.filter p).map f) := by
  intro r
  induction r with
  | nil =>
    intro k out h ho
    rw [iter_inr (hend k out (drop_nil h))]
    simp
  | cons c r ih =>
    intro k out h ho
    rw [iter_inl (hgo k c r out h ho)]
    by_cases hp : p c = true
    · rw [if_pos hp, ih (k + 1) _ (drop_cons h c).2.2 (by simp; omega), List.filter_cons_of_pos hp]
      simp
    · rw [if_neg hp, ih (k + 1) _ (drop_cons h c).2.2 (by omega), List.filter_cons_of_neg hp]

theorem some_loop {o : List UInt8} (B : Int × List UInt8 × List Nt → Option ((Int × List UInt8 × List Nt) ⊕ (List UInt8 × List Nt))) (p : Nt → Bool) (l : List Nt)
    (hend : ∀ (k : Nat) (out : List Nt), l.length ≤ k → B ((k : Int), o, out) = some (.inr (o, out)))
    (hgo : ∀ (k : Nat) (c : Nt) (r : List Nt) (out : List Nt), l.drop k = c :: r → out.length ≤ k → B ((k : Int), o, out) = some (.inl (((k + 1 : Nat) : Int), o, if p c = true then out ++ [c] else out))) :
    ∀ (r : List Nt) (k : Nat) (out : List Nt), l.drop k = r → out.length ≤ k → iter B ((k : Int), o, out) = some (o, out ++ r.filter p) := by
  intro r
  induction r with
  | nil =>
    intro k out h ho
    rw [iter_inr (hend k out (drop_nil h))]
    simp
  | cons c r ih =>
    intro k out h ho
    rw [iter_inl (hgo k c r out h ho)]
    by_cases hp : p c = true
    · rw [if_pos hp, ih (k + 1) _ (drop_cons h c).2.2 (by simp; omega), List.filter_cons_of_pos hp]
      simp
    · rw [if_neg hp, ih (k + 1) _ (drop_cons h c).2.2 (by omega), List.filter_cons_of_neg hp]

def ofP (pkg : List UInt8) (x : Nt) : Bool := decide (x.2.1 = pkg)
def forP (t : List UInt8) (x : Nt) : Bool := decide (x.1 = t)
def notP (pkg : List UInt8) (x : Nt) : Bool := !decide (x.2.1 = pkg)

theorem some0_eq (l : List Nt) (o : List UInt8) (hl : l.length ≤ 10000) : trigs_some l o = some (o, l.filter (notP o)) := by
  unfold trigs_some
  have h := some_loop (o := o) (trigs_some_b0 l (l.length : Int)) (notP o) l (fun k out hk => by
    unfold trigs_some_b0
    simp [show ¬ k < l.length by omega]) (fun k x r out h ho => by
    obtain ⟨g1, g2, g3⟩ := drop_cons h ([], [], false)
    unfold trigs_some_b0 trigs_Set_1 notP
    simp only [natlt, g1, decide_true, cond_true, Int.natCast_nonneg, true_and, if_true, Int.toNat_natCast, g2, kplus g1 (by omega), Option.bind_some]
    by_cases hx : x.2.1 = o
    · rw [decide_eq_true hx]; rfl
    · rw [decide_eq_false hx]
      simp only [Bool.not_false, cond_true, if_true]
      rw [if_pos (by simp; omega)]) l 0 [] rfl (by simp)
  have h' : iter (trigs_some_b0 l (l.length : Int)) ((0 : Int), o, []) = _ := h
  rw [h']
  simp

theorem of_eq (l : List Nt) (o : List UInt8) (hl : l.length ≤ 10000) : trigs_Of l o = some (l.filter (ofP o)) := by
  unfold trigs_Of trigs_some_v1
  have h := some_loop (o := o) (trigs_some_v1_b0 l (l.length : Int)) (ofP o) l (fun k out hk => by
    unfold trigs_some_v1_b0
    simp [show ¬ k < l.length by omega]) (fun k x r out h ho => by
    obtain ⟨g1, g2, g3⟩ := drop_cons h ([], [], false)
    unfold trigs_some_v1_b0 trigs_Of_1 ofP
    simp only [natlt, g1, decide_true, cond_true, Int.natCast_nonneg, true_and, if_true, Int.toNat_natCast, g2, kplus g1 (by omega), Option.bind_some]
    by_cases hx : x.2.1 = o
    · rw [decide_eq_true hx]
      simp only [cond_true, if_true]
      rw [if_pos (by simp; omega)]
    · rw [decide_eq_false hx]; rfl) l 0 [] rfl (by simp)
  have h' : iter (trigs_some_v1_b0 l (l.length : Int)) ((0 : Int), o, []) = _ := h
  rw [h']
  simp

theorem for_eq (l : List Nt) (o : List UInt8) (hl : l.length ≤ 10000) : trigs_For l o = some (l.filter (forP o)) := by
  unfold trigs_For trigs_some_v2
  have h := some_loop (o := o) (trigs_some_v2_b0 l (l.length : Int)) (forP o) l (fun k out hk => by
    unfold trigs_some_v2_b0
    simp [show ¬ k < l.length by omega]) (fun k x r out h ho => by
    obtain ⟨g1, g2, g3⟩ := drop_cons h ([], [], false)
    unfold trigs_some_v2_b0 trigs_For_1 forP
    simp only [natlt, g1, decide_true, cond_true, Int.natCast_nonneg, true_and, if_true, Int.toNat_natCast, g2, kplus g1 (by omega), Option.bind_some]
    by_cases hx : x.1 = o
    · rw [decide_eq_true hx]
      simp only [cond_true, if_true]
      rw [if_pos (by simp; omega)]
    · rw [decide_eq_false hx]; rfl) l 0 [] rfl (by simp)
  have h' : iter (trigs_some_v2_b0 l (l.length : Int)) ((0 : Int), o, []) = _ := h
  rw [h']
  simp

theorem refOf_eq (l : List Nt) (o : List UInt8) (hl : l.length ≤ 10000) : cellarerref12_Of l o = some (l.filter (ofP o)) := by
  unfold cellarerref12_Of
  have h := pick_loop (cellarerref12_Of_b0 l o) (ofP o) (fun x => x) l (fun k out hk => by
    unfold cellarerref12_Of_b0
    simp [show ¬ k < l.length by omega]) (fun k x r out h ho => by
    obtain ⟨g1, g2, g3⟩ := drop_cons h ([], [], false)
    unfold cellarerref12_Of_b0 ofP
    simp only [natlt, g1, decide_true, cond_true, Int.natCast_nonneg, true_and, if_true, Int.toNat_natCast, g2, kplus g1 (by omega)]
    by_cases hx : x.2.1 = o
    · rw [decide_eq_true hx]
      simp only [cond_true, if_true]
      rw [if_pos (by simp; omega)]
    · rw [decide_eq_false hx]; rfl) l 0 [] rfl (by simp)
  have h' : iter (cellarerref12_Of_b0 l o) ((0 : Int), []) = _ := h
  rw [h']
  simp

theorem refFor_eq (l : List Nt) (o : List UInt8) (hl : l.length ≤ 10000) : cellarerref12_For l o = some (l.filter (forP o)) := by
  unfold cellarerref12_For
  have h := pick_loop (cellarerref12_For_b0 l o) (forP o) (fun x => x) l (fun k out hk => by
    unfold cellarerref12_For_b0
    simp [show ¬ k < l.length by omega]) (fun k x r out h ho => by
    obtain ⟨g1, g2, g3⟩ := drop_cons h ([], [], false)
    unfold cellarerref12_For_b0 forP
    simp only [natlt, g1, decide_true, cond_true, Int.natCast_nonneg, true_and, if_true, Int.toNat_natCast, g2, kplus g1 (by omega)]
    by_cases hx : x.1 = o
    · rw [decide_eq_true hx]
      simp only [cond_true, if_true]
      rw [if_pos (by simp; omega)]
    · rw [decide_eq_false hx]; rfl) l 0 [] rfl (by simp)
  have h' : iter (cellarerref12_For_b0 l o) ((0 : Int), []) = _ := h
  rw [h']
  simp

/-! ### one more -/

def sameP (x y : Nt) : Bool := decide (x.1 = y.1 ∧ x.2.1 = y.2.1)

theorem same_loop (l : List Nt) (a b : List UInt8) (c : Bool) (hl : l.length ≤ 10000) : ∀ (r : List Nt) (k : Nat), l.drop k = r →
    iter (api_Interest__78_b0 l (l.length : Int)) ((k : Int), a, b, c) = some (match firstG (sameP (a, b, c)) r k with | some i => .inl ((i : Int), a, b, c) | none => .inr (a, b, c)) := by
  intro r
  induction r with
  | nil =>
    intro k h
    have := drop_nil h
    rw [iter_inr (t := .inr (a, b, c))]
    · rfl
    · unfold api_Interest__78_b0
      simp [show ¬ k < l.length by omega]
  | cons x r ih =>
    intro k h
    obtain ⟨g1, g2, g3⟩ := drop_cons h ([], [], false)
    have hz : decide (cmpN (a, b, c) (x.1, x.2.1, x.2.2) = 0) = sameP (a, b, c) x := cmpN_zero (a, b, c) x
    cases hx : sameP (a, b, c) x with
    | true =>
      rw [iter_inr (t := .inl ((k : Int), a, b, c))]
      · simp [firstG, hx]
      · unfold api_Interest__78_b0 trigs_Set_2
        simp only [natlt, g1, decide_true, cond_true, Int.natCast_nonneg, true_and, if_true, Int.toNat_natCast, g2, Option.bind_some, compare_eq, hz, hx]
    | false =>
      rw [iter_inl (s' := (((k + 1 : Nat) : Int), a, b, c)), ih (k + 1) g3]
      · simp [firstG, hx]
      · unfold api_Interest__78_b0 trigs_Set_2
        simp only [natlt, g1, decide_true, cond_true, Int.natCast_nonneg, true_and, if_true, Int.toNat_natCast, g2, Option.bind_some, compare_eq, hz, hx, cond_false, kplus g1 (by omega)]

theorem behind_loop (l : List Nt) (a b : List UInt8) (c : Bool) (hl : l.length ≤ 10000) : ∀ (r : List Nt) (k : Nat), l.drop k = r →
    iter (api_Interest__v1_b0 l (l.length : Int)) ((k : Int), a, b, c) = some (match firstG (lessN (a, b, c)) r k with | some i => .inl ((i : Int), a, b, c) | none => .inr (a, b, c)) := by
  intro r
  induction r with
  | nil =>
    intro k h
    have := drop_nil h
    rw [iter_inr (t := .inr (a, b, c))]
    · rfl
    · unfold api_Interest__v1_b0
      simp [show ¬ k < l.length by omega]
  | cons x r ih =>
    intro k h
    obtain ⟨g1, g2, g3⟩ := drop_cons h ([], [], false)
    have hz : decide (0 < cmpN (x.1, x.2.1, x.2.2) (a, b, c)) = lessN (a, b, c) x := cmpN_pos x (a, b, c)
    cases hx : lessN (a, b, c) x with
    | true =>
      rw [iter_inr (t := .inl ((k : Int), a, b, c))]
      · simp [firstG, hx]
      · unfold api_Interest__v1_b0 trigs_Set_3
        simp only [natlt, g1, decide_true, cond_true, Int.natCast_nonneg, true_and, if_true, Int.toNat_natCast, g2, Option.bind_some, compare_eq, hz, hx]
    | false =>
      rw [iter_inl (s' := (((k + 1 : Nat) : Int), a, b, c)), ih (k + 1) g3]
      · simp [firstG, hx]
      · unfold api_Interest__v1_b0 trigs_Set_3
        simp only [natlt, g1, decide_true, cond_true, Int.natCast_nonneg, true_and, if_true, Int.toNat_natCast, g2, Option.bind_some, compare_eq, hz, hx, cond_false, kplus g1 (by omega)]

theorem firstG_any {α : Type} (q : α → Bool) (l : List α) : decide (0 ≤ idxG (firstG q l 0)) = l.any q := by
  cases h : firstG q l 0 with
  | none =>
    have := firstG_none q l 0 h
    have e : l.any q = false := by rw [List.any_eq_false]; intro x hx; rw [this x hx]; simp
    rw [e]
    exact decide_eq_false (by simp [idxG])
  | some i =>
    obtain ⟨x, h1, h2, _⟩ := firstG_at q l i h
    have e : l.any q = true := List.any_eq_true.mpr ⟨x, List.mem_of_getElem? h1, h2⟩
    rw [e]
    exact decide_eq_true (by simp [idxG])

theorem contains_eq (l : List Nt) (a b : List UInt8) (c : Bool) (hl : l.length ≤ 10000) : api_Interest_ l a b c = some (l.any (sameP (a, b, c)), a, b, c) := by
  unfold api_Interest_ api_Interest__78
  have h : iter (api_Interest__78_b0 l (l.length : Int)) ((0 : Int), a, b, c) = _ := same_loop l a b c hl l 0 rfl
  rw [h, ← firstG_any]
  cases hf : firstG (sameP (a, b, c)) l 0 <;> rfl

def putN (x : Nt) (l : List Nt) : List Nt := insOne l ((firstG (lessN x) l 0).getD l.length) x

theorem cloneN_eq (l : List Nt) (hl : l.length ≤ 10000) : api_Interest__80 l = some l := by
  unfold api_Interest__80
  rw [if_pos (by omega)]
  cases l with
  | nil => unfold mayb both; simp
  | cons x l => rfl

theorem insN_eq (l : List Nt) (n : Nat) (x : Nt) (hl : l.length ≤ 10000) (hn : n ≤ l.length) : api_Interest__79 (n : Int) [x] l = some (insOne l n x) := by
  unfold api_Interest__79
  dsimp only
  rw [if_pos (by omega), Int.toNat_natCast]

theorem insert_eq (l : List Nt) (a b : List UInt8) (c : Bool) (hl : l.length ≤ 10000) : api_Interest__56 l a b c a b c = some (a, b, c, putN (a, b, c) l) := by
  unfold api_Interest__56 api_Interest__v1 putN
  have h : iter (api_Interest__v1_b0 l (l.length : Int)) ((0 : Int), a, b, c) = _ := behind_loop l a b c hl l 0 rfl
  rw [h]
  cases hf : firstG (lessN (a, b, c)) l 0 with
  | some j =>
    have hj := firstG_lt _ l j hf
    simp only [Option.bind_some, Sum.elim_inl]
    rw [decide_eq_false (by omega)]
    simp only [cond_false, Option.bind_some, cloneN_eq l hl]
    rw [insN_eq l j _ hl (by omega)]
    rfl
  | none =>
    simp only [Option.bind_some, Sum.elim_inr]
    rw [decide_eq_true (by omega)]
    simp only [cond_true, Option.bind_some, cloneN_eq l hl]
    rw [insN_eq l l.length _ hl (Nat.le_refl _)]
    rfl

theorem refPutN_loop (l : List Nt) (a b : List UInt8) (c : Bool) (hl : l.length ≤ 10000) : ∀ (r : List Nt) (k : Nat) (p : Bool) (out : List Nt), l.drop k = r → k ≤ l.length → out.length ≤ 2 * k →
    ∃ p' out', iter (cellarerref12_put_b0 l a b c) (p, (k : Int), out) = some (p', out') ∧ (if p' then out' else out' ++ [(a, b, c)]) = out ++ goP (lessN (a, b, c)) (a, b, c) (-1) r k p ∧ out'.length ≤ 2 * l.length := by
  intro r
  induction r with
  | nil =>
    intro k p out h hkl ho
    have := drop_nil h
    refine ⟨p, out, iter_inr ?_, ?_, by omega⟩
    · unfold cellarerref12_put_b0
      simp [show ¬ k < l.length by omega]
    · cases p <;> simp [goP]
  | cons y r ih =>
    intro k p out h hkl ho
    obtain ⟨g1, g2, g3⟩ := drop_cons h ([], [], false)
    obtain ⟨y1, y2, y3⟩ := y
    have hk : ¬ ((k : Int) = -1) := by omega
    have hb : cellarerref12_put_b0 l a b c (p, (k : Int), out) = some (.inl (p || lessN (a, b, c) (y1, y2, y3), ((k + 1 : Nat) : Int), (out ++ (if !p && lessN (a, b, c) (y1, y2, y3) then [(a, b, c)] else [])) ++ [if (k : Int) = -1 then (a, b, c) else (y1, y2, y3)])) := by
      unfold cellarerref12_put_b0
      rw [if_neg hk]
      simp only [natlt, g1, decide_true, cond_true, Int.natCast_nonneg, true_and, if_true, Int.toNat_natCast, g2, kplus g1 (by omega), List.length_append, List.length_cons, List.length_nil, less_eq, Option.bind_some]
      cases p with
      | true =>
        simp only [Bool.not_true, cond_false, Option.bind_some, Bool.true_or, Bool.false_and, Bool.false_eq_true, if_false, List.append_nil]
        rw [if_pos (by omega)]
      | false =>
        cases hg : lessN (a, b, c) (y1, y2, y3) with
        | true =>
          simp only [Bool.not_false, cond_true, Bool.false_or, Bool.true_and, if_true]
          rw [if_pos (by omega)]
          simp only [Option.bind_some, List.length_append, List.length_cons, List.length_nil]
          rw [if_pos (by omega)]
        | false =>
          simp only [Bool.not_false, cond_true, cond_false, Bool.false_or, Bool.true_and, Bool.false_eq_true, if_false, Option.bind_some, List.append_nil]
          rw [if_pos (by omega)]
    rw [iter_inl hb]
    obtain ⟨O, hO⟩ : ∃ O, O = (out ++ (if !p && lessN (a, b, c) (y1, y2, y3) then [(a, b, c)] else [])) ++ [if (k : Int) = -1 then (a, b, c) else (y1, y2, y3)] := ⟨_, rfl⟩
    have hOl : O.length ≤ 2 * (k + 1) := by
      rw [hO]
      simp only [List.length_append, List.length_cons, List.length_nil]
      split <;> simp <;> omega
    rw [← hO]
    obtain ⟨p', out', h1, h2, h3⟩ := ih (k + 1) (p || lessN (a, b, c) (y1, y2, y3)) O g3 (by omega) hOl
    refine ⟨p', out', h1, ?_, by omega⟩
    rw [h2, hO]
    simp only [goP, List.append_assoc, List.singleton_append]

theorem refPutN_eq (l : List Nt) (a b : List UInt8) (c : Bool) (hl : l.length ≤ 10000) : cellarerref12_put l a b c = some (putN (a, b, c) l) := by
  unfold cellarerref12_put
  obtain ⟨p', out', h1, h2, h3⟩ := refPutN_loop l a b c hl l 0 false [] rfl (by simp) (by simp)
  have h1' : iter (cellarerref12_put_b0 l a b c) (false, (0 : Int), []) = some (p', out') := h1
  rw [goP_new _ _ (-1) (by omega), List.nil_append] at h2
  rw [h1']
  simp only [Option.bind_some]
  unfold putN
  rw [← h2]
  cases p' with
  | true => rfl
  | false =>
    simp only [Bool.not_false, cond_true, Bool.false_eq_true, if_false, List.length_cons, List.length_nil]
    rw [if_pos (by omega)]

/-! ### all of them -/

def stepN (pkg : List UInt8) (out : List Nt) (x : Nt) : List Nt := if out.any (sameP (x.1, pkg, x.2.2)) = true then out else putN (x.1, pkg, x.2.2) out
def setN (l : List Nt) (pkg : List UInt8) (own : List Nt) : List Nt := own.foldl (stepN pkg) (l.filter (notP pkg))

theorem putN_perm (x : Nt) (l : List Nt) : (putN x l).Perm (x :: l) := by
  unfold putN insOne
  have h : (l.take ((firstG (lessN x) l 0).getD l.length) ++ x :: l.drop ((firstG (lessN x) l 0).getD l.length)).Perm (x :: (l.take ((firstG (lessN x) l 0).getD l.length) ++ l.drop ((firstG (lessN x) l 0).getD l.length))) := List.perm_middle
  rwa [List.take_append_drop] at h

theorem putN_len (x : Nt) (l : List Nt) : (putN x l).length = l.length + 1 := by rw [(putN_perm x l).length_eq]; rfl

theorem stepN_len (pkg : List UInt8) (out : List Nt) (x : Nt) : (stepN pkg out x).length ≤ out.length + 1 := by
  unfold stepN
  split
  · omega
  · rw [putN_len]; omega

theorem set_loop (own : List Nt) (pkg : List UInt8) (hl : own.length ≤ 5000) : ∀ (r : List Nt) (k : Nat) (out : List Nt), own.drop k = r → out.length + r.length ≤ 10000 →
    iter (trigs_Set_b0 own (own.length : Int) pkg) ((k : Int), out) = some (r.foldl (stepN pkg) out) := by
  intro r
  induction r with
  | nil =>
    intro k out h ho
    have := drop_nil h
    rw [iter_inr (t := out)]
    · rfl
    · unfold trigs_Set_b0
      simp [show ¬ k < own.length by omega]
  | cons x r ih =>
    intro k out h ho
    obtain ⟨g1, g2, g3⟩ := drop_cons h ([], [], false)
    simp only [List.length_cons] at ho
    have hs := stepN_len pkg out x
    have hb : trigs_Set_b0 own (own.length : Int) pkg ((k : Int), out) = some (.inl (((k + 1 : Nat) : Int), stepN pkg out x)) := by
      unfold trigs_Set_b0 stepN
      simp only [natlt, g1, decide_true, cond_true, Int.natCast_nonneg, true_and, if_true, Int.toNat_natCast, g2, kplus g1 (by omega), List.drop_zero, contains_eq out _ _ _ (by omega), Option.bind_some]
      cases hc : out.any (sameP (x.1, pkg, x.2.2)) with
      | true => rfl
      | false =>
        simp only [Bool.not_false, cond_true, insert_eq out _ _ _ (by omega), Option.bind_some, Bool.false_eq_true, if_false]
    rw [iter_inl hb, ih (k + 1) _ g3 (by omega)]
    rfl

theorem setN_eq (l : List Nt) (pkg : List UInt8) (own : List Nt) (hl : l.length ≤ 5000) (ho : own.length ≤ 5000) : trigs_Set l pkg own = some (setN l pkg own) := by
  unfold trigs_Set setN
  rw [some0_eq l pkg (by omega)]
  simp only [Option.bind_some]
  have hf : (l.filter (notP pkg)).length ≤ l.length := List.length_filter_le _ _
  have h : iter (trigs_Set_b0 own (own.length : Int) pkg) ((0 : Int), l.filter (notP pkg)) = _ := set_loop own pkg ho own 0 _ rfl (by omega)
  rw [h]
  rfl

/-- What is there of the package is what was put. -/
def InvN (pkg : List UInt8) (out done : List Nt) : Prop := ∀ t, (out.any fun y => decide (y.1 = t ∧ y.2.1 = pkg)) = done.any fun x => decide (x.1 = t)

theorem invN_step {pkg : List UInt8} {out done : List Nt} {x : Nt} (h : InvN pkg out done) : InvN pkg (stepN pkg out x) (done ++ [x]) := by
  intro t
  rw [List.any_append, ← h t]
  unfold stepN
  have hs : ∀ y : Nt, sameP (x.1, pkg, x.2.2) y = decide (y.1 = x.1 ∧ y.2.1 = pkg) := fun y => by
    unfold sameP
    congr 1
    exact propext ⟨fun q => ⟨q.1.symm, q.2.symm⟩, fun q => ⟨q.1.symm, q.2.symm⟩⟩
  have hs' : out.any (sameP (x.1, pkg, x.2.2)) = out.any fun y => decide (y.1 = x.1 ∧ y.2.1 = pkg) := by
    congr 1; funext y; exact hs y
  by_cases hc : out.any (sameP (x.1, pkg, x.2.2)) = true
  · rw [if_pos hc]
    rw [hs'] at hc
    by_cases ht : x.1 = t
    · subst ht; rw [hc, Bool.true_or]
    · simp [ht]
  · rw [if_neg hc]
    have hp : (putN (x.1, pkg, x.2.2) out).any (fun y => decide (y.1 = t ∧ y.2.1 = pkg)) = ((x.1, pkg, x.2.2) :: out).any fun y => decide (y.1 = t ∧ y.2.1 = pkg) := (putN_perm _ _).any_eq
    rw [hp, List.any_cons]
    simp only [and_true, List.any_cons, List.any_nil, Bool.or_false]
    exact Bool.or_comm _ _

theorem refSet_loop (own : List Nt) (pkg : List UInt8) (hl : own.length ≤ 5000) : ∀ (r : List Nt) (k : Nat) (out : List Nt), own.drop k = r → out.length + r.length ≤ 10000 → InvN pkg out (own.take k) →
    iter (cellarerref12_Set_b1 pkg own) ((k : Int), out) = some (r.foldl (stepN pkg) out) := by
  intro r
  induction r with
  | nil =>
    intro k out h ho hi
    have := drop_nil h
    rw [iter_inr (t := out)]
    · rfl
    · unfold cellarerref12_Set_b1
      simp [show ¬ k < own.length by omega]
  | cons x r ih =>
    intro k out h ho hi
    obtain ⟨g1, g2, g3⟩ := drop_cons h ([], [], false)
    simp only [List.length_cons] at ho
    have hs := stepN_len pkg out x
    have hxk : own[k]? = some x := by
      rw [List.getElem?_eq_getElem g1]
      rw [List.getD_eq_getElem?_getD, List.getElem?_eq_getElem g1] at g2
      exact congrArg some g2
    have htk : own.take (k + 1) = own.take k ++ [x] := by rw [List.take_add_one, hxk]; rfl
    have hany : out.any (sameP (x.1, pkg, x.2.2)) = (own.take k).any fun y => decide (y.1 = x.1) := by
      rw [← hi x.1]
      congr 1
      funext y
      unfold sameP
      congr 1
      exact propext ⟨fun q => ⟨q.1.symm, q.2.symm⟩, fun q => ⟨q.1.symm, q.2.symm⟩⟩
    have hlen0 : ((((own.take k).filter (forP x.1)).length : Int) - ((0 : Nat) : Int) = 0) = ¬ ((own.take k).any (fun y => decide (y.1 = x.1)) = true) := by
      apply propext
      rw [List.any_eq_true]
      constructor
      · intro hz ⟨y, hy, hy2⟩
        have : (own.take k).filter (forP x.1) = [] := List.eq_nil_of_length_eq_zero (by omega)
        have hm : y ∈ (own.take k).filter (forP x.1) := List.mem_filter.mpr ⟨hy, hy2⟩
        rw [this] at hm
        cases hm
      · intro hn
        have : (own.take k).filter (forP x.1) = [] := by
          rw [List.filter_eq_nil_iff]
          intro y hy hy2
          exact hn ⟨y, hy, hy2⟩
        rw [this]; rfl
    have hb : cellarerref12_Set_b1 pkg own ((k : Int), out) = some (.inl (((k + 1 : Nat) : Int), stepN pkg out x)) := by
      unfold cellarerref12_Set_b1 stepN
      rw [hany]
      simp only [natlt, g1, decide_true, cond_true, Int.natCast_nonneg, true_and, if_true, Int.toNat_natCast, Int.toNat_zero, g2, kplus g1 (by omega), List.drop_zero, refFor_eq (own.take k) x.1 (by simp; omega), Option.bind_some, refPutN_eq out _ _ _ (by omega), hlen0]
      rw [if_pos ⟨by omega, by omega⟩]
      by_cases hc : (own.take k).any (fun y => decide (y.1 = x.1)) = true
      · rw [decide_eq_false (not_not_intro hc), if_pos hc]; rfl
      · rw [decide_eq_true hc, if_neg hc]; rfl
    rw [iter_inl hb, ih (k + 1) _ g3 (by omega) (by rw [htk]; exact invN_step hi)]
    rfl

theorem refSetN_eq (l : List Nt) (pkg : List UInt8) (own : List Nt) (hl : l.length ≤ 5000) (ho : own.length ≤ 5000) : cellarerref12_Set l pkg own = some (setN l pkg own) := by
  unfold cellarerref12_Set setN
  have h0 := pick_loop (cellarerref12_Set_b0 l pkg) (notP pkg) (fun x => x) l (fun k out hk => by
    unfold cellarerref12_Set_b0
    simp [show ¬ k < l.length by omega]) (fun k x r out h ho => by
    obtain ⟨g1, g2, g3⟩ := drop_cons h ([], [], false)
    unfold cellarerref12_Set_b0 notP
    simp only [natlt, g1, decide_true, cond_true, Int.natCast_nonneg, true_and, if_true, Int.toNat_natCast, g2, kplus g1 (by omega)]
    by_cases hx : x.2.1 = pkg
    · rw [decide_eq_true hx]; rfl
    · rw [decide_eq_false hx]
      simp only [Bool.not_false, cond_true, if_true]
      rw [if_pos (by simp; omega)]) l 0 [] rfl (by simp)
  have h0' : iter (cellarerref12_Set_b0 l pkg) ((0 : Int), []) = some ([] ++ (l.filter (notP pkg)).map fun x => x) := h0
  rw [h0']
  simp only [Option.bind_some, List.nil_append, List.map_id']
  have hf : (l.filter (notP pkg)).length ≤ l.length := List.length_filter_le _ _
  have h : iter (cellarerref12_Set_b1 pkg own) ((0 : Int), l.filter (notP pkg)) = _ := refSet_loop own pkg ho own 0 _ rfl (by omega) (by
    intro t
    rw [List.take_zero, List.any_nil, List.any_eq_false]
    intro y hy
    have := (List.mem_filter.mp hy).2
    unfold notP at this
    simp only [Bool.not_eq_true', decide_eq_false_iff_not] at this
    simp [this])
  rw [h]
  rfl

theorem setN_of (pkg : List UInt8) : ∀ (own out : List Nt), ((own.foldl (stepN pkg) out).filter (ofP pkg)).length ≤ (out.filter (ofP pkg)).length + own.length
  | [], out => by simp
  | x :: own, out => by
    have ih := setN_of pkg own (stepN pkg out x)
    have hs : ((stepN pkg out x).filter (ofP pkg)).length ≤ (out.filter (ofP pkg)).length + 1 := by
      unfold stepN
      split
      · omega
      · rw [((putN_perm _ _).filter _).length_eq, List.filter_cons]
        split <;> simp
    rw [List.foldl_cons, List.length_cons]
    omega

theorem setN_len (pkg : List UInt8) : ∀ (own out : List Nt), (own.foldl (stepN pkg) out).length ≤ out.length + own.length
  | [], out => by simp
  | x :: own, out => by
    have ih := setN_len pkg own (stepN pkg out x)
    have hs := stepN_len pkg out x
    rw [List.foldl_cons, List.length_cons]
    omega

theorem TrigsSets_true (l : List Nt) (pkg : List UInt8) (own : List Nt) : cellarerlaw12_TrigsSets l pkg own = some true := by
  unfold cellarerlaw12_TrigsSets
  rw [fewN_eq, awake12, fewN_eq]
  cases hf : fewN l with
  | false => rfl
  | true =>
    cases hf2 : fewN own with
    | false => rfl
    | true =>
      by_cases hp : (300 : Int) < (pkg.length : Int)
      · simp only [Option.bind_some, Bool.not_true, cond_false]
        rw [decide_eq_true hp]; rfl
      · simp only [Option.bind_some, Bool.not_true, cond_false]
        rw [decide_eq_false hp]
        have hl := (fewN_sh hf).2.1
        have ho := (fewN_sh hf2).2.1
        have hsl : (setN l pkg own).length ≤ 140 := by
          have h1 := setN_len pkg own (l.filter (notP pkg))
          have h2 : (l.filter (notP pkg)).length ≤ l.length := List.length_filter_le _ _
          unfold setN
          omega
        have hso : ((setN l pkg own).filter (ofP pkg)).length ≤ own.length := by
          have h1 := setN_of pkg own (l.filter (notP pkg))
          have h2 : (l.filter (notP pkg)).filter (ofP pkg) = [] := by
            rw [List.filter_eq_nil_iff]
            intro y hy hy2
            have := (List.mem_filter.mp hy).2
            unfold notP at this
            unfold ofP at hy2
            rw [hy2] at this
            cases this
          rw [h2] at h1
          unfold setN
          simpa using h1
        have hfl : ∀ q : Nt → Bool, (l.filter q).length < 1000002 := fun q => by have := List.length_filter_le q l; omega
        simp only [cond_false, Option.bind_some, Sum.elim_inr, List.drop_zero, setN_eq l pkg own (by omega) (by omega), refSetN_eq l pkg own (by omega) (by omega), nsame_eq _ _ (show (setN l pkg own).length < 1000002 by omega),
          of_eq l pkg (by omega), refOf_eq l pkg (by omega), for_eq l pkg (by omega), refFor_eq l pkg (by omega), nsame_eq _ _ (hfl (ofP pkg)), nsame_eq _ _ (hfl (forP pkg)), decide_true, Bool.not_true, of_eq (setN l pkg own) pkg (by omega)]
        rw [decide_eq_true (by omega)]
        rfl

end Go.Cellar
