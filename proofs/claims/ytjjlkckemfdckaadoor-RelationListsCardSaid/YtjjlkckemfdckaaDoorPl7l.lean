/- The laws of relations, as plain laws. No condition. -/
import Derived.Test.YtjjlkckemfdckaaDoorPl7h
set_option linter.unusedSimpArgs false
set_option linter.unusedVariables false
set_option maxRecDepth 4000
namespace Go.Cellar
open Go

/-! ### few -/

theorem min3 (n : Nat) : (if (3000 : Int) < (n : Int) then (3000 : Int) else (n : Int)) = ((min n 3000 : Nat) : Int) := by
  by_cases h : 3000 < n
  · rw [if_pos (by omega), Nat.min_eq_right (by omega)]; rfl
  · rw [if_neg (by omega), Nat.min_eq_left (by omega)]

def wR (x : Rl) : Nat := min x.1.length 3000 + min x.2.1.length 3000 + min x.2.2.length 3000 + 1

theorem few0_loop (l : List (List Rl)) (i : Nat) (hi : i < l.length) (hl : l.length ≤ 70) (hg : (l.getD i []).length ≤ 70) : ∀ (r : List Rl) (k n : Nat), (l.getD i []).drop k = r → n ≤ 3000 →
    ∃ x, iter (cellarerlaw07_few_b0 l (i : Int)) ((n : Int), (k : Int)) = some x ∧ (∀ v, x = .inr v → (∃ m : Nat, v = (m : Int) ∧ m ≤ 3000) ∧ ∀ y ∈ r, ShR 3000 y) := by
  obtain ⟨g, hgg⟩ : ∃ g, g = l.getD i [] := ⟨_, rfl⟩
  rw [← hgg] at hg ⊢
  intro r
  induction r with
  | nil =>
    intro k n h hn
    have hk := drop_nil h
    refine ⟨.inr (n : Int), iter_inr ?_, fun v hv => ?_⟩
    · unfold cellarerlaw07_few_b0
      simp only [natlt, hi, Int.natCast_nonneg, true_and, if_true, Int.toNat_natCast, ← hgg, show ¬ k < g.length by omega, decide_false, cond_false]
    · simp only [Sum.inr.injEq] at hv
      exact ⟨⟨n, hv.symm, hn⟩, by simp⟩
  | cons y r ih =>
    intro k n h hn
    obtain ⟨g1, g2, g3⟩ := drop_cons h ([], [], [])
    have hb : cellarerlaw07_few_b0 l (i : Int) ((n : Int), (k : Int)) = some (if 3000 < n + wR y then .inr (.inl ()) else .inl (((n + wR y : Nat) : Int), ((k + 1 : Nat) : Int))) := by
      unfold cellarerlaw07_few_b0 wR
      have w1 : min y.1.length 3000 ≤ 3000 := Nat.min_le_right _ _
      have w2 : min y.2.1.length 3000 ≤ 3000 := Nat.min_le_right _ _
      have w3 : min y.2.2.length 3000 ≤ 3000 := Nat.min_le_right _ _
      simp only [natlt, hi, g1, decide_true, cond_true, Int.natCast_nonneg, true_and, if_true, Int.toNat_natCast, ← hgg, g2, kplus g1 (by omega), min3]
      rw [w64 (n := ((min y.1.length 3000 : Nat) : Int) + ((min y.2.1.length 3000 : Nat) : Int)) (by omega) (by omega), w64 (n := ((min y.1.length 3000 : Nat) : Int) + ((min y.2.1.length 3000 : Nat) : Int) + ((min y.2.2.length 3000 : Nat) : Int)) (by omega) (by omega), w64 (n := ((min y.1.length 3000 : Nat) : Int) + ((min y.2.1.length 3000 : Nat) : Int) + ((min y.2.2.length 3000 : Nat) : Int) + 1) (by omega) (by omega), w64 (by omega) (by omega)]
      by_cases hq : 3000 < n + (min y.1.length 3000 + min y.2.1.length 3000 + min y.2.2.length 3000 + 1)
      · rw [if_pos hq, decide_eq_true (by omega)]; rfl
      · rw [if_neg hq, decide_eq_false (by omega)]
        simp only [cond_false]
        congr 3
    by_cases hq : 3000 < n + wR y
    · rw [if_pos hq] at hb
      exact ⟨.inl (), iter_inr hb, fun v hv => by cases hv⟩
    · rw [if_neg hq] at hb
      obtain ⟨x, h1, h2⟩ := ih (k + 1) (n + wR y) g3 (by omega)
      refine ⟨x, by rw [iter_inl hb]; exact h1, fun v hv => ?_⟩
      obtain ⟨q1, q2⟩ := h2 v hv
      refine ⟨q1, fun z hz => ?_⟩
      rcases List.mem_cons.mp hz with rfl | hz
      · unfold wR at hq
        refine ⟨?_, ?_, ?_⟩ <;> omega
      · exact q2 z hz

theorem few1_loop (l : List (List Rl)) (hl : l.length ≤ 70) : ∀ (r : List (List Rl)) (k n : Nat), l.drop k = r → n ≤ 3000 →
    ∃ x, iter (cellarerlaw07_few_b1 l) ((n : Int), (k : Int)) = some x ∧ (x = .inr () → ∀ g ∈ r, g.length ≤ 70 ∧ ∀ y ∈ g, ShR 3000 y) := by
  intro r
  induction r with
  | nil =>
    intro k n h hn
    have hk := drop_nil h
    refine ⟨.inr (), iter_inr ?_, fun _ => by simp⟩
    unfold cellarerlaw07_few_b1
    simp [show ¬ k < l.length by omega]
  | cons g r ih =>
    intro k n h hn
    obtain ⟨g1, g2, g3⟩ := drop_cons h []
    by_cases h70 : 70 < g.length
    · refine ⟨.inl (), iter_inr ?_, fun h => by cases h⟩
      unfold cellarerlaw07_few_b1
      simp only [natlt, g1, decide_true, cond_true, Int.natCast_nonneg, true_and, if_true, Int.toNat_natCast, g2, show (70 : Int) < (g.length : Int) by omega]
    · obtain ⟨x, h1, h2⟩ := few0_loop l k g1 hl (by rw [g2]; omega) _ 0 n rfl hn
      rw [g2] at h2
      have h1' : iter (cellarerlaw07_few_b0 l (k : Int)) ((n : Int), (0 : Int)) = some x := h1
      cases x with
      | inl u =>
        refine ⟨.inl (), iter_inr ?_, fun h => by cases h⟩
        unfold cellarerlaw07_few_b1
        simp only [natlt, g1, decide_true, cond_true, Int.natCast_nonneg, true_and, if_true, Int.toNat_natCast, g2, show ¬ (70 : Int) < (g.length : Int) by omega, decide_false, cond_false, h1', Option.bind_some, Sum.elim_inl]
      | inr v =>
        obtain ⟨⟨m, rfl, hm⟩, q2⟩ := h2 v rfl
        obtain ⟨y, i1, i2⟩ := ih (k + 1) m g3 hm
        refine ⟨y, ?_, fun hy => ?_⟩
        · rw [iter_inl (s' := ((m : Int), ((k + 1 : Nat) : Int)))]
          · exact i1
          · unfold cellarerlaw07_few_b1
            simp only [natlt, g1, decide_true, cond_true, Int.natCast_nonneg, true_and, if_true, Int.toNat_natCast, g2, show ¬ (70 : Int) < (g.length : Int) by omega, decide_false, cond_false, h1', Option.bind_some, Sum.elim_inr, kplus g1 (by omega)]
        · intro z hz
          rcases List.mem_cons.mp hz with rfl | hz
          · exact ⟨by omega, fun y hy => q2 y (by simpa using hy)⟩
          · exact i2 hy z hz

theorem few7 (l : List (List Rl)) : ∃ b, cellarerlaw07_few l = some b ∧ (b = true → l.length ≤ 70 ∧ ∀ g ∈ l, g.length ≤ 70 ∧ ∀ y ∈ g, ShR 3000 y) := by
  unfold cellarerlaw07_few
  by_cases h : l.length ≤ 70
  · obtain ⟨x, h1, h2⟩ := few1_loop l h l 0 0 rfl (by omega)
    have h1' : iter (cellarerlaw07_few_b1 l) ((0 : Int), (0 : Int)) = some x := h1
    simp only [show ¬ (70 : Int) < (l.length : Int) by omega, decide_false, cond_false, h1', Option.bind_some]
    cases x with
    | inl u => exact ⟨false, rfl, fun h => by cases h⟩
    | inr u => exact ⟨true, rfl, fun _ => ⟨h, h2 rfl⟩⟩
  · simp only [show (70 : Int) < (l.length : Int) by omega, decide_true, cond_true]
    exact ⟨false, rfl, fun h => by cases h⟩

/-! ### are two the same -/

theorem rlEq (x y : Rl) : (Decidable.decide (x.1 = y.1) && (Decidable.decide (x.2.1 = y.2.1) && Decidable.decide (x.2.2 = y.2.2))) = decide (x = y) := by
  obtain ⟨a, b, c⟩ := x
  obtain ⟨a', b', c'⟩ := y
  by_cases h1 : a = a' <;> by_cases h2 : b = b' <;> by_cases h3 : c = c' <;> simp [h1, h2, h3]

/-- A loop that compares place by place. -/
theorem same_loop {α : Type} [DecidableEq α] (B : Int → Option (Int ⊕ (Unit ⊕ Unit))) (a b : List α) (d : α) (hab : a.length = b.length)
    (hend : ∀ k : Nat, a.length ≤ k → B (k : Int) = some (.inr (.inr ())))
    (hgo : ∀ (k : Nat) (x : α) (r : List α), a.drop k = x :: r → k < b.length → B (k : Int) = some (if x = b.getD k d then .inl ((k + 1 : Nat) : Int) else .inr (.inl ()))) :
    iter B (0 : Int) = some (if a = b then .inr () else .inl ()) := by
  have key : ∀ (r : List α) (k : Nat), a.drop k = r → iter B (k : Int) = some (if r = b.drop k then .inr () else .inl ()) := by
    intro r
    induction r with
    | nil =>
      intro k h
      have := drop_nil h
      have hb : b.drop k = [] := List.drop_eq_nil_of_le (by omega)
      rw [iter_inr (hend k this), hb]
      simp
    | cons x r ih =>
      intro k h
      obtain ⟨g1, g2, g3⟩ := drop_cons h d
      have hkb : k < b.length := by omega
      have hb : b.drop k = b.getD k d :: b.drop (k + 1) := by
        rw [List.drop_eq_getElem_cons hkb, List.getD_eq_getElem?_getD, List.getElem?_eq_getElem hkb]; rfl
      have hbody := hgo k x r h hkb
      by_cases hx : x = b.getD k d
      · rw [if_pos hx] at hbody
        rw [iter_inl hbody, ih (k + 1) g3, hb, ← hx]
        simp
      · rw [if_neg hx] at hbody
        rw [iter_inr hbody, hb, if_neg (fun e => hx (by simp only [List.cons.injEq] at e; exact e.1))]
  have := key a 0 rfl
  simpa using this

theorem sameList_eq (a b : List Rl) (ha : a.length < 1000002) : cellarerref07_SameList a b = some (decide (a = b)) := by
  unfold cellarerref07_SameList
  by_cases h : a.length = b.length
  · have hd : decide ((a.length : Int) = (b.length : Int)) = true := decide_eq_true (by omega)
    have hl := same_loop (cellarerref07_SameList_b0 a b) a b ([], [], []) h (fun k hk => by
      unfold cellarerref07_SameList_b0
      simp [show ¬ k < a.length by omega]) (fun k x r hh hkb => by
      obtain ⟨g1, g2, g3⟩ := drop_cons hh ([], [], [])
      unfold cellarerref07_SameList_b0
      simp only [natlt, g1, hkb, decide_true, cond_true, Int.natCast_nonneg, true_and, and_self, if_true, Int.toNat_natCast, g2, kplus g1 (by omega), rlEq]
      by_cases hx : x = b.getD k ([], [], [])
      · rw [if_pos hx, decide_eq_true hx]; rfl
      · rw [if_neg hx, decide_eq_false hx]; rfl)
    simp only [hd, Bool.not_true, cond_false, hl]
    by_cases hab : a = b <;> simp [hab]
  · have hd : decide ((a.length : Int) = (b.length : Int)) = false := decide_eq_false (by omega)
    have hab : a ≠ b := fun e => h (by rw [e])
    simp [hd, hab]

theorem same7_eq (a b : List (List Rl)) (ha : a.length < 1000002) (hg : ∀ g ∈ a, g.length < 1000002) : cellarerref07_Same a b = some (decide (a = b)) := by
  unfold cellarerref07_Same
  by_cases h : a.length = b.length
  · have hd : decide ((a.length : Int) = (b.length : Int)) = true := decide_eq_true (by omega)
    have hl := same_loop (cellarerref07_Same_b0 a b) a b [] h (fun k hk => by
      unfold cellarerref07_Same_b0
      simp [show ¬ k < a.length by omega]) (fun k x r hh hkb => by
      obtain ⟨g1, g2, g3⟩ := drop_cons hh []
      have hx := hg x (List.mem_of_mem_drop (by rw [hh]; simp))
      unfold cellarerref07_Same_b0
      simp only [natlt, g1, hkb, decide_true, cond_true, Int.natCast_nonneg, true_and, and_self, if_true, Int.toNat_natCast, g2, kplus g1 (by omega), sameList_eq x _ hx, Option.bind_some]
      by_cases hx : x = b.getD k []
      · rw [if_pos hx, decide_eq_true hx]; rfl
      · rw [if_neg hx, decide_eq_false hx]; rfl)
    simp only [hd, Bool.not_true, cond_false, hl]
    by_cases hab : a = b <;> simp [hab]
  · have hd : decide ((a.length : Int) = (b.length : Int)) = false := decide_eq_false (by omega)
    have hab : a ≠ b := fun e => h (by rw [e])
    simp [hd, hab]

theorem is_eq (e : Int) (b : Bool) : cellarerlaw07_is e b = some (if b = true then decide (e = 0) else decide (e = 2)) := by
  unfold cellarerlaw07_is
  cases b <;> rfl

theorem sh_mono {n m : Nat} (h : n ≤ m) {x : Rl} (hx : ShR n x) : ShR m x := ⟨Nat.le_trans hx.1 h, Nat.le_trans hx.2.1 h, Nat.le_trans hx.2.2 h⟩

/-! ### the first law -/

theorem RelationTexts_true (n o v s : List UInt8) : cellarerlaw07_RelationTexts n o v s = some true := by
  unfold cellarerlaw07_RelationTexts
  rw [awake7]
  obtain ⟨b, h1, h2⟩ := few7 (List.drop 0 [List.drop 0 [(n, o, v)]])
  rw [h1]
  cases b with
  | false => rfl
  | true =>
    obtain ⟨_, hq⟩ := h2 rfl
    have hx : ShR 3000 (n, o, v) := (hq [(n, o, v)] (by simp)).2 _ (by simp)
    obtain ⟨x1, x2, x3⟩ := hx
    dsimp only at x1 x2 x3
    by_cases h3 : s.length ≤ 1000
    · have hT := textR_len (n := 3000) (x := (n, o, v)) ⟨x1, x2, x3⟩
      simp only [Option.bind_some, Bool.not_true, cond_false, show ¬ ((1000 : Int) < (s.length : Int)) by omega, decide_false, Sum.elim_inr, relParse_eq s (by omega), refRelParse_eq s (by omega), relRight_eq n o v (by omega), refRelRight_eq n o v (by omega) (by omega), textR_eq n o v (by omega), refTextR_eq n o v (by omega), relParse_eq (textR (n, o, v)) (by omega)]
      have hback : rightR (n, o, v) = true → parseR (textR (n, o, v)) = some (n, o, v) := fun h => parseR_iff.mpr ⟨h, rfl⟩
      cases hp : parseR s with
      | none =>
        simp only [decide_true, Bool.and_self, Bool.not_true, cond_false, is_eq, Option.bind_some, Sum.elim_inr]
        cases hr : rightR (n, o, v)
        · simp
        · rw [hback hr]; simp
      | some x =>
        obtain ⟨q1, q2⟩ := parseR_iff.mp hp
        have hxl : x.1.length + x.2.1.length + x.2.2.length < 1000000000 := by
          have hc := candP_text q1
          rw [q2] at hc
          have := candP_len s
          rw [hc] at this
          omega
        have ht : relation_Text x.1 x.2.1 x.2.2 = some s := by rw [textR_eq _ _ _ hxl]; exact congrArg some q2
        simp only [decide_true, Bool.and_self, Bool.not_true, cond_false, is_eq, Option.bind_some, Sum.elim_inr, if_true]
        cases hr : rightR (n, o, v)
        · simp [ht]
        · rw [hback hr]; simp [ht]
    · simp only [Option.bind_some, Bool.not_true, cond_false, show ((1000 : Int) < (s.length : Int)) by omega, decide_true, cond_true, Sum.elim_inl]

/-! ### groups -/

theorem allV_len {l : List (List Rl)} (h1 : l.length ≤ 70) (h2 : ∀ g ∈ l, g.length ≤ 70 ∧ ∀ y ∈ g, ShR 3000 y) : (allV l).1.length ≤ 50000000 := by
  unfold allV
  split
  · simp
  · split
    · simp
    · split
      · have hb := join_bound sepC 700000 (l.map joinG) (fun y hy => by
          obtain ⟨g, hg, rfl⟩ := List.mem_map.mp hy
          obtain ⟨q1, q2⟩ := h2 g hg
          have := join_bound sepB 9004 (g.map textR) (fun z hz => by
            obtain ⟨x, hx, rfl⟩ := List.mem_map.mp hz
            exact textR_len (q2 x hx))
          rw [List.length_map] at this
          have h3 : g.length * (9004 + sepB.length) ≤ 70 * 9007 := Nat.mul_le_mul q1 (by decide)
          unfold joinG
          omega)
        rw [List.length_map] at hb
        have h3 : l.length * (700000 + sepC.length) ≤ 70 * 700002 := Nat.mul_le_mul h1 (by decide)
        show (Lib.join (l.map joinG) sepC).length ≤ _
        omega
      · simp

theorem allV_of {l : List (List Rl)} (h : (allV l).2 = 0) : allV l = ((allV l).1, 0) := by
  rw [← h]

theorem RelationGroups_true (l : List (List Rl)) : cellarerlaw07_RelationGroups l = some true := by
  unfold cellarerlaw07_RelationGroups
  rw [awake7]
  obtain ⟨b, h1, h2⟩ := few7 l
  rw [h1]
  cases b with
  | false => rfl
  | true =>
    obtain ⟨hl, hq⟩ := h2 rfl
    have hsh : ShG l := ⟨by omega, fun g hg => ⟨by have := (hq g hg).1; omega, fun x hx => sh_mono (by omega) ((hq g hg).2 x hx)⟩⟩
    have hlen := allV_len hl hq
    simp only [Option.bind_some, Bool.not_true, cond_false, all_eq l hsh, refAll_eq l hsh, decide_true, Sum.elim_inr]
    by_cases hc : (allV l).2 = 0
    · have hr := (all_read (allV_of hc)).1
      simp only [hc, decide_true, Bool.not_true, cond_false, parseAll_eq (allV l).1 (by omega), hr, Option.bind_some, cond_true, List.drop_zero, same7_eq l l (by omega) (fun g hg => by have := (hq g hg).1; omega)]
    · simp [hc]

/-! ### lists -/

theorem jV_all (l : List Rl) : jV sepC l = allV (l.map fun x => [x]) := by
  unfold jV allV
  have h1 : (l.map fun x => [x]).any (fun g => decide (64 < g.length)) = false := by
    rw [List.any_eq_false]
    intro g hg
    obtain ⟨x, _, rfl⟩ := List.mem_map.mp hg
    simp
  have h2 : (l.map fun x => [x]).all okG = l.all rightR := by
    rw [List.all_map]
    congr 1
    funext x
    simp [okG]
  have h3 : (l.map fun x => [x]).map joinG = l.map textR := by
    rw [List.map_map]
    refine List.map_congr_left fun x _ => ?_
    simp [joinG, Lib.join_one]
  rw [h1, h2, h3]
  simp

theorem ones_eq (l : List Rl) (hl : l.length ≤ 100000) : cellarerref07_Ones l = some (l.map fun x => [x]) := by
  unfold cellarerref07_Ones
  have h := col_loop' (cellarerref07_Ones_b0 l) (fun x => [x]) l (fun k out hk => by
    unfold cellarerref07_Ones_b0
    simp [show ¬ k < l.length by omega]) (fun k x r out h ho => by
    obtain ⟨g1, g2, g3⟩ := drop_cons h ([], [], [])
    unfold cellarerref07_Ones_b0
    simp only [natlt, g1, decide_true, cond_true, Int.natCast_nonneg, true_and, if_true, Int.toNat_natCast, g2, kplus g1 (by omega), List.drop_zero, List.length_cons, List.length_nil]
    rw [if_pos (by omega)]) l 0 [] rfl rfl
  have h' : iter (cellarerref07_Ones_b0 l) ((0 : Int), []) = _ := h
  rw [h']
  simp

theorem refList_eq (l : List Rl) (hl : l.length ≤ 10000) (hs : ∀ x ∈ l, ShR 100000 x) : cellarerref07_List l = some (jV sepC l) := by
  unfold cellarerref07_List
  rw [ones_eq l (by omega), Option.bind_some, List.drop_zero, refAll_eq _ ⟨by simpa using hl, fun g hg => by
    obtain ⟨x, hx, rfl⟩ := List.mem_map.mp hg
    exact ⟨by simp, fun y hy => by simp only [List.mem_singleton] at hy; subst hy; exact hs y hx⟩⟩, Option.bind_some, jV_all]

theorem jV_read {l : List Rl} (h : (jV sepC l).2 = 0) : cut1V sepC (jV sepC l).1 = (0, l) := by
  unfold jV at h ⊢
  split at h
  · cases h
  · rename_i h64
    rw [if_neg h64]
    split at h
    · rename_i ha
      rw [if_pos ha]
      by_cases h0 : l = []
      · subst h0; rfl
      · exact cut1_read (a := []) (b := [32]) (c := 44) (by simp) h0 (by omega) ha fun x hx => (textR_ok (List.all_eq_true.mp ha x hx)).1
    · cases h

theorem jV_len {l : List Rl} (h1 : l.length ≤ 70) (h2 : ∀ y ∈ l, ShR 3000 y) : (jV sepC l).1.length ≤ 50000000 := by
  rw [jV_all]
  exact allV_len (by simpa using h1) fun g hg => by
    obtain ⟨x, hx, rfl⟩ := List.mem_map.mp hg
    exact ⟨by simp, fun y hy => by simp only [List.mem_singleton] at hy; subst hy; exact h2 y hx⟩

theorem RelationLists_true (l : List Rl) : cellarerlaw07_RelationLists l = some true := by
  unfold cellarerlaw07_RelationLists
  rw [awake7]
  obtain ⟨b, h1, h2⟩ := few7 (List.drop 0 [l])
  rw [h1]
  cases b with
  | false => rfl
  | true =>
    obtain ⟨_, hq⟩ := h2 rfl
    obtain ⟨hl, hx⟩ := hq l (by simp)
    have hs : ∀ x ∈ l, ShR 100000 x := fun x h => sh_mono (by omega) (hx x h)
    have hlen := jV_len hl hx
    simp only [Option.bind_some, Bool.not_true, cond_false, list_eq l (by omega) hs, refList_eq l (by omega) hs, decide_true, Sum.elim_inr]
    by_cases hc : (jV sepC l).2 = 0
    · simp only [hc, decide_true, Bool.not_true, cond_false, parseList_eq (jV sepC l).1 (by omega), jV_read hc, Option.bind_some, cond_true, List.drop_zero, sameList_eq l l (by omega)]
    · simp [hc]

/-! ### the document's reading -/

def trimV (s : List UInt8) (ahead : Bool) : List UInt8 :=
  if ahead = true then (if s.take 1 = [32] then s.drop 1 else s) else (if s.getLast? = some 32 then s.dropLast else s)

theorem trimmed_eq (s : List UInt8) (hs : s.length < 1000000000) (a : Bool) : cellarerref07_trimmed s a = some (trimV s a) := by
  unfold cellarerref07_trimmed trimV
  by_cases h0 : 0 < s.length
  · have hd : decide ((0 : Int) < (s.length : Int)) = true := decide_eq_true (by omega)
    have ew : IntKind.wrap IntKind.i64 ((s.length : Int) - 1) = ((s.length - 1 : Nat) : Int) := by rw [w64 (by omega) (by omega)]; omega
    have hu : ∀ d : UInt8, ((d.toNat : Int) = (32 : Int)) = (d = 32) := fun d => u8C 32 d
    cases a
    · have hg : (s.getLast? = some 32) = (s.getD (s.length - 1) 0 = 32) := by
        rw [List.getLast?_eq_getElem?, List.getD_eq_getElem?_getD, List.getElem?_eq_getElem (show s.length - 1 < s.length by omega)]
        simp
      simp only [hd, cond_true, cond_false, Option.bind_some, Sum.elim_inr, Bool.not_false, ew, Int.toNat_natCast, hu, hg, Bool.false_eq_true, if_false]
      rw [if_pos (by omega)]
      by_cases hc : s.getD (s.length - 1) 0 = 32
      · simp only [hc, decide_true, cond_true, if_true]
        rw [if_pos (by omega)]
        simp [List.dropLast_eq_take]
      · simp only [hc, decide_false, cond_false, if_false]
    · have hg : (s.take 1 = [32]) = (s.getD 0 0 = 32) := by
        cases s with
        | nil => simp at h0
        | cons x r => simp
      simp only [hd, cond_true, hu, hg, if_true]
      rw [if_pos (by omega)]
      have h00 : (Int.toNat (0 : Int)) = 0 := rfl
      rw [h00]
      by_cases hc : s.getD 0 0 = 32
      · simp only [hc, decide_true, cond_true, if_true]
        rw [if_pos (by omega)]
        simp
      · simp only [hc, decide_false, cond_false, if_false, Option.bind_some, Sum.elim_inr, Bool.not_true]
  · have : s = [] := List.eq_nil_of_length_eq_zero (by omega)
    subst this
    cases a <;> rfl

def trimB (s : List UInt8) : List UInt8 := trimV (trimV s true) false

theorem trimV_len (s : List UInt8) (a : Bool) : (trimV s a).length ≤ s.length := by
  unfold trimV
  split
  · split
    · simp
    · omega
  · split
    · simp
    · omega

def mapO {α β : Type} (f : α → Option β) : List α → Option (List β)
  | [] => some []
  | x :: r => match f x, mapO f r with
    | some y, some ys => some (y :: ys)
    | _, _ => none

def toE {β : Type} : Option β → Unit ⊕ β
  | some y => .inr y
  | none => .inl ()

theorem mapE_O {α β : Type} (f : α → Option β) (l : List α) (k : Nat) : mapE (fun _ x => toE (f x)) k l = toE (mapO f l) := by
  induction l generalizing k with
  | nil => rfl
  | cons x r ih =>
    unfold mapE mapO
    rw [ih (k + 1)]
    cases f x with
    | none => rfl
    | some y => cases mapO f r <;> rfl

def gV (s : List UInt8) : Option (List Rl) := mapO (fun x => parseR (trimB x)) (piecesC 124 (trimV s true) [])
def gsV (s : List UInt8) : Option (List (List Rl)) := mapO gV (piecesC 44 s [])

theorem rown_loop (L : List (List UInt8)) (hL : L.length ≤ 100000000) (hs : ∀ x ∈ L, x.length < 100000000) :
    iter (cellarerref07_ParseAll_b0 L) ((0 : Int), []) = some (toE (mapO (fun x => parseR (trimB x)) L)) := by
  have h := col_loop (cellarerref07_ParseAll_b0 L) (fun _ x => toE (parseR (trimB x))) L (fun k out hk => by
      unfold cellarerref07_ParseAll_b0
      simp [show ¬ k < L.length by omega]) (fun k x r out h ho => by
      obtain ⟨g1, g2, g3⟩ := drop_cons h []
      have hx := hs x (List.mem_of_mem_drop (by rw [h]; simp))
      have e1 : ((k : Int) + ((0 : Nat) : Int)) = (k : Int) := by omega
      have l1 := trimV_len x true
      have l2 := trimV_len (trimV x true) false
      unfold cellarerref07_ParseAll_b0
      simp only [natlt, g1, decide_true, cond_true, Int.natCast_nonneg, true_and, e1, if_true, Int.toNat_natCast, Nat.zero_add, g2, kplus g1 (by omega), e2', trimmed_eq x (by omega), trimmed_eq (trimV x true) (by omega), Option.bind_some, refRelParse_eq (trimV (trimV x true) false) (by omega)]
      have ht : trimV (trimV x true) false = trimB x := rfl
      rw [ht]
      cases hp : parseR (trimB x) with
      | none => simp [toE]
      | some y =>
        simp only [toE, Bool.not_true, cond_false, List.drop_zero, List.length_cons, List.length_nil]
        rw [if_pos (by omega)]) L 0 [] rfl rfl
  have h' : iter (cellarerref07_ParseAll_b0 L) ((0 : Int), []) = _ := h
  rw [h', mapE_O]
  cases mapO (fun x => parseR (trimB x)) L <;> simp [toE]

theorem mapO_len {α β : Type} {f : α → Option β} : ∀ {l : List α} {ys : List β}, mapO f l = some ys → ys.length = l.length ∧ ∀ y ∈ ys, ∃ x ∈ l, f x = some y
  | [], ys, h => by simp only [mapO, Option.some.injEq] at h; subst h; simp
  | x :: r, ys, h => by
    unfold mapO at h
    cases hf : f x with
    | none => rw [hf] at h; cases h
    | some y =>
      cases hm : mapO f r with
      | none => rw [hf, hm] at h; cases h
      | some zs =>
        rw [hf, hm] at h
        simp only [Option.some.injEq] at h
        subst h
        obtain ⟨h1, h2⟩ := mapO_len hm
        refine ⟨by simp [h1], fun z hz => ?_⟩
        rcases List.mem_cons.mp hz with rfl | hz
        · exact ⟨x, by simp, hf⟩
        · obtain ⟨w, hw, e⟩ := h2 z hz
          exact ⟨w, by simp [hw], e⟩

def rAllV (s : List UInt8) : Bool × List (List Rl) :=
  if s = [] then (true, []) else match gsV s with
    | some l => if allV l = (s, 0) then (true, l) else (false, [])
    | none => (false, [])

theorem parseR_len {s : List UInt8} {x : Rl} (h : parseR s = some x) : x.1.length ≤ s.length ∧ x.2.1.length ≤ s.length ∧ x.2.2.length ≤ s.length := by
  obtain ⟨q1, q2⟩ := parseR_iff.mp h
  have hc := candP_text q1
  rw [q2] at hc
  have := candP_len s
  rwa [hc] at this

theorem gsV_sh {s : List UInt8} {l : List (List Rl)} (hs : s.length ≤ 9000) (h : gsV s = some l) : ShG l := by
  obtain ⟨h1, h2⟩ := mapO_len h
  have := piecesC_len 44 s []
  refine ⟨by omega, fun g hg => ?_⟩
  obtain ⟨x, hx, e⟩ := h2 g hg
  have hxl := piecesC_small 44 s [] s.length (by simp) x hx
  obtain ⟨h3, h4⟩ := mapO_len e
  have hp := piecesC_len 124 (trimV x true) []
  have ht := trimV_len x true
  refine ⟨by omega, fun y hy => ?_⟩
  obtain ⟨z, hz, e2⟩ := h4 y hy
  have hzl := piecesC_small 124 (trimV x true) [] (trimV x true).length (by simp) z hz
  have l1 := trimV_len z true
  have l2 := trimV_len (trimV z true) false
  have hb : (trimB z).length ≤ 9000 := by unfold trimB; omega
  obtain ⟨q1, q2, q3⟩ := parseR_len e2
  exact ⟨by omega, by omega, by omega⟩

theorem refParseAll_eq (s : List UInt8) (hs : s.length ≤ 9000) : cellarerref07_ParseAll s = some (rAllV s) := by
  unfold cellarerref07_ParseAll rAllV
  by_cases h0 : s = []
  · simp [h0]
  · simp only [h0, decide_false, cond_false, if_false]
    have hsp : cellarerref06_Split s (44 : Int) = some (piecesC 44 s []) := refSplitC 44 s (by omega)
    obtain ⟨L, hL⟩ : ∃ L, L = piecesC 44 s [] := ⟨_, rfl⟩
    have hLl := (piecesC_len 44 s []).2
    have hLs : ∀ x ∈ L, x.length ≤ s.length := fun x hx => by rw [hL] at hx; exact piecesC_small 44 s [] s.length (by simp) x hx
    have hgs : gsV s = mapO gV L := by unfold gsV; rw [hL]
    rw [hsp, Option.bind_some]
    rw [← hL] at hLl ⊢
    have h := col_loop (cellarerref07_ParseAll_b1 L) (fun _ x => toE (gV x)) L (fun k out hk => by
        unfold cellarerref07_ParseAll_b1
        simp [show ¬ k < L.length by omega]) (fun k x r out h ho => by
        obtain ⟨g1, g2, g3⟩ := drop_cons h []
        have hx := hLs x (List.mem_of_mem_drop (by rw [h]; simp))
        have e1 : ((k : Int) + ((0 : Nat) : Int)) = (k : Int) := by omega
        have l1 := trimV_len x true
        have hp := piecesC_len 124 (trimV x true) []
        have hsp2 : cellarerref06_Split (trimV x true) (124 : Int) = some (piecesC 124 (trimV x true) []) := refSplitC 124 _ (by omega)
        have hro := rown_loop (piecesC 124 (trimV x true) []) (by omega) (fun z hz => by
          have := piecesC_small 124 (trimV x true) [] (trimV x true).length (by simp) z hz
          omega)
        unfold cellarerref07_ParseAll_b1
        simp only [natlt, g1, decide_true, cond_true, Int.natCast_nonneg, true_and, e1, if_true, Int.toNat_natCast, Nat.zero_add, g2, kplus g1 (by omega), e2', trimmed_eq x (by omega), Option.bind_some, hsp2, hro]
        have hgv : mapO (fun x => parseR (trimB x)) (piecesC 124 (trimV x true) []) = gV x := rfl
        rw [hgv]
        cases gV x with
        | none => simp [toE]
        | some y =>
          simp only [toE, Sum.elim_inr, List.drop_zero, List.length_cons, List.length_nil]
          rw [if_pos (by omega)]) L 0 [] rfl rfl
    have h' : iter (cellarerref07_ParseAll_b1 L) ((0 : Int), []) = _ := h
    rw [h', mapE_O, ← hgs]
    cases hg : gsV s with
    | none => rfl
    | some l =>
      simp only [toE, List.nil_append, Option.bind_some, Sum.elim_inr, List.drop_zero, refAll_eq l (gsV_sh hs hg)]
      by_cases hc : (allV l).2 = 0
      · by_cases hq : (allV l).1 = s
        · have he : allV l = (s, 0) := by rw [← hq, ← hc]
          rw [he]
          simp
        · have hne : allV l ≠ (s, 0) := fun e => hq (by rw [e])
          simp [hc, hq, hne]
      · have hne : allV l ≠ (s, 0) := fun e => hc (by rw [e])
        simp [hc, hne]

/-! ### what is written, the document reads -/

theorem piecesC_join (c : UInt8) (a b : List UInt8) : ∀ (L : List (List UInt8)), L ≠ [] → (∀ x ∈ L, ∀ y ∈ x, y ≠ c) → (∀ y ∈ a, y ≠ c) → (∀ y ∈ b, y ≠ c) → ∀ acc : List UInt8, (∀ y ∈ acc, y ≠ c) →
    piecesC c (acc ++ Lib.join L (a ++ c :: b)) [] = (match L with | [] => [] | [x] => [acc ++ x] | x :: y :: r => (acc ++ x ++ a) :: piecesC c (b ++ Lib.join (y :: r) (a ++ c :: b)) [])
  | [], h, _, _, _, _, _ => absurd rfl h
  | [x], _, hx, _, _, acc, hacc => by
    rw [Lib.join_one, piecesC_none c _ [] (fun y hy => by
      rcases List.mem_append.mp hy with hy | hy
      · exact hacc y hy
      · exact hx x (by simp) y hy)]
    simp
  | x :: y :: r, _, hx, ha, hb, acc, hacc => by
    rw [join_cons2]
    have e : acc ++ (x ++ (a ++ c :: b) ++ Lib.join (y :: r) (a ++ c :: b)) = (acc ++ x ++ a) ++ c :: (b ++ Lib.join (y :: r) (a ++ c :: b)) := by simp
    rw [e, piecesC_one c (acc ++ x ++ a) _ [] (fun z hz => by
      simp only [List.mem_append] at hz
      rcases hz with (hz | hz) | hz
      · exact hacc z hz
      · exact hx x (by simp) z hz
      · exact ha z hz)]
    simp

/-- A text's trimming leaves what has no space at its ends. -/
def tight (s : List UInt8) : Prop := s.take 1 ≠ [32] ∧ s.getLast? ≠ some 32

theorem textR_tight {x : Rl} (h : rightR x = true) : tight (textR x) := by
  unfold rightR at h
  simp only [Bool.and_eq_true] at h
  obtain ⟨hn, h⟩ := h
  have n1 := not_of_bad (nameV_ok hn)
  have hne : x.1 ≠ [] := by
    rintro e
    rw [e] at hn
    exact absurd hn (by decide)
  have h1 : ∀ t, (x.1 ++ t).take 1 ≠ [32] := by
    intro t e
    cases hx : x.1 with
    | nil => exact hne hx
    | cons y r =>
      rw [hx] at e
      simp at e
      exact n1.1 y (by rw [hx]; simp) e
  unfold textR
  split
  · refine ⟨by simpa using h1 [], fun e => ?_⟩
    exact n1.1 32 (List.mem_of_getLast? e) rfl
  · refine ⟨by simp only [List.append_assoc]; exact h1 _, ?_⟩
    rw [List.getLast?_concat]
    decide

theorem trim_front {s : List UInt8} (h : tight s) : trimV s true = s ∧ trimV (32 :: s) true = s ∧ trimV s false = s ∧ trimV (s ++ [32]) false = s := by
  unfold trimV
  refine ⟨?_, ?_, ?_, ?_⟩
  · simp [h.1]
  · simp
  · simp [h.2]
  · simp

theorem trimB_all {s : List UInt8} (h : tight s) (hne : s ≠ []) : trimB s = s ∧ trimB (32 :: s) = s ∧ trimB (s ++ [32]) = s ∧ trimB (32 :: (s ++ [32])) = s := by
  obtain ⟨t1, t2, t3, t4⟩ := trim_front h
  unfold trimB
  have t5 : trimV (s ++ [32]) true = s ++ [32] := by
    unfold trimV
    have : (s ++ [32]).take 1 ≠ [32] := by
      cases s with
      | nil => exact absurd rfl hne
      | cons y r =>
        intro e
        simp at e
        exact h.1 (by rw [e]; rfl)
    simp [this]
  have t6 : trimV (32 :: (s ++ [32])) true = s ++ [32] := by
    unfold trimV; simp
  refine ⟨by rw [t1, t3], by rw [t2, t3], by rw [t5, t4], by rw [t6, t4]⟩

theorem gV_read_aux : ∀ (g : List Rl) (pre : List UInt8), g ≠ [] → g.all rightR = true → (pre = [] ∨ pre = [32]) → mapO (fun x => parseR (trimB x)) (piecesC 124 (pre ++ Lib.join (g.map textR) sepB) []) = some g
  | [], _, h, _, _ => absurd rfl h
  | [x], pre, _, hr, hp => by
    simp only [List.all_cons, List.all_nil, Bool.and_true] at hr
    have ho := textR_ok hr
    obtain ⟨b1, b2, b3, b4⟩ := trimB_all (textR_tight hr) ho.2.2
    have hx : parseR (textR x) = some x := parseR_iff.mpr ⟨hr, rfl⟩
    have hpre : ∀ y ∈ pre, y ≠ 124 := by rcases hp with rfl | rfl <;> simp
    have := piecesC_join 124 [32] [32] [textR x] (by simp) (fun z hz => by simp only [List.mem_singleton] at hz; subst hz; exact ho.2.1) (by simp) (by simp) pre hpre
    show mapO _ (piecesC 124 (pre ++ Lib.join [textR x] ([32] ++ 124 :: [32])) []) = _
    rw [this]
    rcases hp with rfl | rfl
    · simp [mapO, b1, hx]
    · simp [mapO, b2, hx]
  | x :: y :: r, pre, _, hr, hp => by
    have hr' := hr
    simp only [List.all_cons, Bool.and_eq_true] at hr
    have ho := textR_ok hr.1
    obtain ⟨b1, b2, b3, b4⟩ := trimB_all (textR_tight hr.1) ho.2.2
    have hx : parseR (textR x) = some x := parseR_iff.mpr ⟨hr.1, rfl⟩
    have hpre : ∀ y ∈ pre, y ≠ 124 := by rcases hp with rfl | rfl <;> simp
    have hj := piecesC_join 124 [32] [32] ((x :: y :: r).map textR) (by simp) (fun z hz => by
      obtain ⟨w, hw, rfl⟩ := List.mem_map.mp hz
      exact (textR_ok (List.all_eq_true.mp hr' w hw)).2.1) (by simp) (by simp) pre hpre
    have ih := gV_read_aux (y :: r) [32] (by simp) (by simpa using hr.2) (.inr rfl)
    show mapO _ (piecesC 124 (pre ++ Lib.join ((x :: y :: r).map textR) ([32] ++ 124 :: [32])) []) = _
    rw [hj]
    simp only [List.map_cons] at ih ⊢
    have ih' : mapO (fun x => parseR (trimB x)) (piecesC 124 ([32] ++ Lib.join (textR y :: r.map textR) ([32] ++ 124 :: [32])) []) = some (y :: r) := ih
    unfold mapO
    rw [ih']
    have hb : trimB (pre ++ textR x ++ [32]) = textR x := by
      rcases hp with rfl | rfl
      · simpa using b3
      · simpa using b4
    rw [hb, hx]

theorem joinG_tight {g : List Rl} (h : okG g = true) : (joinG g).take 1 ≠ [32] := by
  unfold okG at h
  simp only [Bool.and_eq_true, Bool.not_eq_true', decide_eq_false_iff_not] at h
  cases g with
  | nil => simp at h
  | cons x r =>
    have hr := List.all_eq_true.mp h.2 x (by simp)
    have ht := (textR_tight hr).1
    have hne := (textR_ok hr).2.2
    unfold joinG
    rw [List.map_cons, Lib.join_cons]
    cases hx : textR x with
    | nil => exact absurd hx hne
    | cons y q =>
      rw [hx] at ht
      simpa using ht

theorem gV_read {g : List Rl} (h : okG g = true) (pre : List UInt8) (hp : pre = [] ∨ pre = [32]) : gV (pre ++ joinG g) = some g := by
  have ht := joinG_tight h
  have h' := h
  unfold okG at h'
  simp only [Bool.and_eq_true, Bool.not_eq_true', decide_eq_false_iff_not] at h'
  have hg : g ≠ [] := fun e => h'.1 (by rw [e]; rfl)
  have e : trimV (pre ++ joinG g) true = joinG g := by
    unfold trimV
    rcases hp with rfl | rfl
    · simp [ht]
    · simp
  unfold gV
  rw [e]
  have := gV_read_aux g [] hg h'.2 (.inl rfl)
  simpa [joinG] using this

theorem gsV_read_aux : ∀ (l : List (List Rl)) (pre : List UInt8), l ≠ [] → l.all okG = true → (pre = [] ∨ pre = [32]) → mapO gV (piecesC 44 (pre ++ Lib.join (l.map joinG) sepC) []) = some l
  | [], _, h, _, _ => absurd rfl h
  | [x], pre, _, hr, hp => by
    simp only [List.all_cons, List.all_nil, Bool.and_true] at hr
    have hpre : ∀ y ∈ pre, y ≠ 44 := by rcases hp with rfl | rfl <;> simp
    have := piecesC_join 44 [] [32] [joinG x] (by simp) (fun z hz => by simp only [List.mem_singleton] at hz; subst hz; exact (joinG_ok hr).1) (by simp) (by simp) pre hpre
    show mapO _ (piecesC 44 (pre ++ Lib.join [joinG x] ([] ++ 44 :: [32])) []) = _
    rw [this]
    simp [mapO, gV_read hr pre hp]
  | x :: y :: r, pre, _, hr, hp => by
    have hr' := hr
    simp only [List.all_cons, Bool.and_eq_true] at hr
    have hpre : ∀ y ∈ pre, y ≠ 44 := by rcases hp with rfl | rfl <;> simp
    have hj := piecesC_join 44 [] [32] ((x :: y :: r).map joinG) (by simp) (fun z hz => by
      obtain ⟨w, hw, rfl⟩ := List.mem_map.mp hz
      exact (joinG_ok (List.all_eq_true.mp hr' w hw)).1) (by simp) (by simp) pre hpre
    have ih := gsV_read_aux (y :: r) [32] (by simp) (by simpa using hr.2) (.inr rfl)
    show mapO _ (piecesC 44 (pre ++ Lib.join ((x :: y :: r).map joinG) ([] ++ 44 :: [32])) []) = _
    rw [hj]
    simp only [List.map_cons] at ih ⊢
    have ih' : mapO gV (piecesC 44 ([32] ++ Lib.join (joinG y :: r.map joinG) ([] ++ 44 :: [32])) []) = some (y :: r) := ih
    unfold mapO
    rw [ih', List.append_nil, gV_read hr.1 pre hp]

theorem gsV_read {l : List (List Rl)} (h0 : l ≠ []) (h : l.all okG = true) : gsV (Lib.join (l.map joinG) sepC) = some l := gsV_read_aux l [] h0 h (.inl rfl)

/-- Both readings are one. -/
theorem both_all (s : List UInt8) : (rAllV s).1 = decide ((pAllV s).1 = 0) ∧ (rAllV s).2 = (pAllV s).2 := by
  by_cases h0 : s = []
  · subst h0
    exact ⟨rfl, rfl⟩
  · rcases pAllV_code s with hp | hp
    · have hw := all_write (show pAllV s = (0, (pAllV s).2) by rw [← hp])
      obtain ⟨_, q1, q2, _, _, q3⟩ := all_read hw
      have hl : (pAllV s).2 ≠ [] := fun e => h0 (q1 e)
      have hg := gsV_read hl q2
      rw [q3] at hg
      have hr : rAllV s = (true, (pAllV s).2) := by
        unfold rAllV
        rw [if_neg h0, hg]
        dsimp only
        rw [if_pos hw]
      rw [hr, hp]
      exact ⟨rfl, rfl⟩
    · have hr : rAllV s = (false, []) := by
        unfold rAllV
        rw [if_neg h0]
        cases hg : gsV s with
        | none => rfl
        | some l =>
          dsimp only
          rw [if_neg]
          intro e
          rw [(all_read e).1] at hp
          cases hp
      rw [hr, hp]
      exact ⟨rfl, rfl⟩

/-! ### lists, read -/

def oneV (g : List Rl) : Option Rl := match g with | [x] => some x | _ => none

def rListV (s : List UInt8) : Bool × List Rl := match mapO oneV (rAllV s).2 with
  | some l => ((rAllV s).1, l)
  | none => (false, [])

theorem rAllV_sh (s : List UInt8) (hs : s.length ≤ 9000) : ShG (rAllV s).2 := by
  unfold rAllV
  split
  · exact ⟨by simp, by simp⟩
  · split
    · rename_i l hg
      split
      · exact gsV_sh hs hg
      · exact ⟨by simp, by simp⟩
    · exact ⟨by simp, by simp⟩

theorem refParseList_eq (s : List UInt8) (hs : s.length ≤ 9000) : cellarerref07_ParseList s = some (rListV s) := by
  unfold cellarerref07_ParseList rListV
  rw [refParseAll_eq s hs, Option.bind_some]
  obtain ⟨L, hL⟩ : ∃ L, L = (rAllV s).2 := ⟨_, rfl⟩
  have hsh := rAllV_sh s hs
  rw [← hL] at hsh ⊢
  obtain ⟨hl1, hl2⟩ := hsh
  have h := col_loop (cellarerref07_ParseList_b0 L) (fun _ x => toE (oneV x)) L (fun k out hk => by
      unfold cellarerref07_ParseList_b0
      simp [show ¬ k < L.length by omega]) (fun k x r out h ho => by
      obtain ⟨g1, g2, g3⟩ := drop_cons h []
      have e1 : ((k : Int) + ((0 : Nat) : Int)) = (k : Int) := by omega
      unfold cellarerref07_ParseList_b0
      simp only [natlt, g1, decide_true, cond_true, Int.natCast_nonneg, true_and, e1, if_true, Int.toNat_natCast, Nat.zero_add, g2, kplus g1 (by omega), e2']
      match x with
      | [] => simp [oneV, toE]
      | [y] =>
        simp only [List.length_cons, List.length_nil, oneV, toE, List.drop_zero]
        have : decide (((0 + 1 : Nat) : Int) = 1) = true := rfl
        rw [this]
        simp only [Bool.not_true, cond_false]
        rw [if_pos (by omega), if_pos (by omega)]
        rfl
      | y :: z :: q =>
        have : decide ((((y :: z :: q).length : Nat) : Int) = 1) = false := decide_eq_false (by simp; omega)
        rw [this]
        simp [oneV, toE]) L 0 [] rfl rfl
  have h' : iter (cellarerref07_ParseList_b0 L) ((0 : Int), []) = _ := h
  rw [h', mapE_O]
  cases mapO oneV L <;> simp [toE]

theorem mapO_one (l : List Rl) : mapO oneV (l.map fun x => [x]) = some l := by
  induction l with
  | nil => rfl
  | cons x r ih => simp only [List.map_cons, mapO, oneV, ih]

theorem mapO_one' : ∀ {L : List (List Rl)} {l : List Rl}, mapO oneV L = some l → L = l.map fun x => [x]
  | [], l, h => by simp only [mapO, Option.some.injEq] at h; subst h; rfl
  | g :: r, l, h => by
    unfold mapO at h
    match g, h with
    | [], h => simp [oneV] at h
    | [x], h =>
      cases hm : mapO oneV r with
      | none => rw [hm] at h; simp [oneV] at h
      | some ys =>
        rw [hm] at h
        simp only [oneV, Option.some.injEq] at h
        subst h
        rw [mapO_one' hm]
        rfl
    | x :: y :: q, h => simp [oneV] at h

theorem both_list (s : List UInt8) : (rListV s).1 = decide ((cut1V sepC s).1 = 0) ∧ (rListV s).2 = (cut1V sepC s).2 := by
  by_cases h0 : s = []
  · subst h0
    exact ⟨rfl, rfl⟩
  · obtain ⟨b1, b2⟩ := both_all s
    rcases cut1V_code sepC s with hp | hp
    · obtain ⟨w1, w2, w3, w4⟩ := cut1_write h0 (show cut1V sepC s = (0, (cut1V sepC s).2) by rw [← hp])
      have hj : jV sepC (cut1V sepC s).2 = (s, 0) := by
        unfold jV
        rw [if_neg (by omega), if_pos w3, w4]
      rw [jV_all] at hj
      have hr := (all_read hj).1
      rw [hr] at b1 b2
      unfold rListV
      rw [b2, mapO_one, b1, hp]
      exact ⟨rfl, rfl⟩
    · have key : mapO oneV (rAllV s).2 = none ∨ (rAllV s = (false, [])) := by
        rcases pAllV_code s with hq | hq
        · left
          cases hm : mapO oneV (rAllV s).2 with
          | none => rfl
          | some l =>
            exfalso
            have e := mapO_one' hm
            rw [b2] at e
            have hw := all_write (show pAllV s = (0, (pAllV s).2) by rw [← hq])
            rw [e, ← jV_all] at hw
            have := jV_read (l := l) (by rw [hw])
            rw [hw] at this
            dsimp only at this
            rw [this] at hp
            cases hp
        · right
          rw [hq] at b1 b2
          exact Prod.ext (by simpa using b1) b2
      unfold rListV
      rw [hp]
      rcases key with key | key
      · rw [key]; exact ⟨rfl, rfl⟩
      · rw [key]; exact ⟨rfl, rfl⟩

theorem RelationParses_true (s : List UInt8) : cellarerlaw07_RelationParses s = some true := by
  unfold cellarerlaw07_RelationParses
  rw [awake7]
  by_cases h3 : s.length ≤ 2000
  · obtain ⟨b1, b2⟩ := both_all s
    obtain ⟨c1, c2⟩ := both_list s
    have hsh := rAllV_sh s (by omega)
    rw [b2] at hsh
    have hll : (cut1V sepC s).2.length < 1000002 := by
      rcases cut1V_code sepC s with hp | hp
      · by_cases h0 : s = []
        · subst h0; simp [cut1V]
        · have := (cut1_write h0 (show cut1V sepC s = (0, (cut1V sepC s).2) by rw [← hp])).2.1
          omega
      · rw [hp]; simp
    simp only [show ¬ ((2000 : Int) < (s.length : Int)) by omega, decide_false, cond_false, parseAll_eq s (by omega), refParseAll_eq s (by omega), parseList_eq s (by omega), refParseList_eq s (by omega), Option.bind_some, List.drop_zero, b1, b2, c1, c2,
      same7_eq _ _ (show (pAllV s).2.length < 1000002 by have := hsh.1; omega) (fun g hg => by have := (hsh.2 g hg).1; omega), sameList_eq _ _ hll, is_eq, decide_true, Bool.not_true, all_eq _ hsh]
    have hcode : ∀ e : Int, e = 0 ∨ e = 2 → (if decide (e = 0) = true then decide (e = 0) else decide (e = 2)) = true := by
      rintro e (rfl | rfl) <;> rfl
    have k1 : (pAllV s).1 = 0 ∨ (pAllV s).1 = 2 := by
      rcases pAllV_code s with h | h
      · exact .inl h
      · right; rw [h]
    have k2 : (cut1V sepC s).1 = 0 ∨ (cut1V sepC s).1 = 2 := by
      rcases cut1V_code sepC s with h | h
      · exact .inl h
      · right; rw [h]
    rw [hcode _ k1, hcode _ k2]
    simp only [Bool.not_true, cond_false, Option.bind_some, Sum.elim_inr]
    by_cases hz : (pAllV s).1 = 0
    · have hw := all_write (show pAllV s = (0, (pAllV s).2) by rw [← hz])
      rw [hw]
      simp [hz]
    · simp [hz]
  · simp only [show ((2000 : Int) < (s.length : Int)) by omega, decide_true, cond_true, Option.bind_some]

end Go.Cellar
