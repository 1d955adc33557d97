/- What was cleaned is clean; PathCleans, PathSplits, PathParts as plain laws. No condition. -/
import Derived.Test.YtmeglodejjkmoaaDoorPl2c
set_option linter.unusedSimpArgs false
set_option linter.unusedVariables false
namespace Go.Cellar
open Go

structure Good (x : List UInt8) : Prop where
  ne : x ≠ []
  sl : ∀ c ∈ x, c ≠ 47
  d1 : x ≠ [46]
  d2 : x ≠ [46, 46]

def flat (l : List (List UInt8)) : List UInt8 := l.flatMap fun x => 47 :: x

theorem flat_cons (x : List UInt8) (l : List (List UInt8)) : flat (x :: l) = 47 :: (x ++ flat l) := by simp [flat]
theorem flat_append (a b : List (List UInt8)) : flat (a ++ b) = flat a ++ flat b := by simp [flat]
theorem joinedV_flat (l : List (List UInt8)) (h : l ≠ []) : joinedV l = flat l := by simp [joinedV, h, flat]

/-! ### parts of what was joined -/

theorem pieces_free : ∀ (x : List UInt8) (q acc : List UInt8), (∀ c ∈ x, c ≠ 47) → pieces (x ++ q) acc = pieces q (acc ++ x) := by
  intro x
  induction x with
  | nil => intro q acc _; simp
  | cons c x ih =>
    intro q acc h
    have hc : c ≠ 47 := h c (by simp)
    simp only [List.cons_append, pieces, hc, if_false, ih q (acc ++ [c]) (fun y hy => h y (by simp [hy]))]
    simp

theorem pieces_flat : ∀ (l : List (List UInt8)) (acc : List UInt8), (∀ x ∈ l, ∀ c ∈ x, c ≠ 47) → pieces (flat l) acc = acc :: l := by
  intro l
  induction l with
  | nil => intro acc _; simp [flat, pieces]
  | cons x l ih =>
    intro acc h
    rw [flat_cons]
    simp only [pieces, if_true]
    rw [pieces_free x (flat l) [] (h x (by simp)), ih _ (fun y hy => h y (by simp [hy]))]
    simp

theorem parts_joined (l : List (List UInt8)) (h : ∀ x ∈ l, Good x) : partsV (joinedV l) = l := by
  have hf : l.filter full = l := by
    rw [List.filter_eq_self]
    intro x hx
    simp [full, (h x hx).ne]
  unfold partsV
  by_cases h0 : l = []
  · subst h0; simp [joinedV, pieces, full]
  · rw [joinedV_flat l h0, pieces_flat l [] (fun x hx => (h x hx).sl), List.filter_cons]
    simp [full] at hf ⊢
    exact hf

theorem fold_good : ∀ (l left : List (List UInt8)), (∀ x ∈ l, Good x) → l.foldl cstep left = left ++ l := by
  intro l
  induction l with
  | nil => intro left _; simp
  | cons x l ih =>
    intro left h
    have hx := h x (by simp)
    rw [List.foldl_cons, ih _ (fun y hy => h y (by simp [hy]))]
    simp [cstep, hx.d1, hx.d2]

theorem left_good (l : List (List UInt8)) (h : ∀ x ∈ l, Good x) : leftV l = l := by
  unfold leftV
  rw [fold_good l [] h]
  rfl

/-! ### what the parts of a text are made of -/

theorem pieces_mem : ∀ (s acc : List UInt8), (∀ c ∈ acc, c ≠ 47) → ∀ x ∈ pieces s acc, (∀ c ∈ x, c ≠ 47) ∧ ∀ c ∈ x, c ∈ acc ∨ c ∈ s := by
  intro s
  induction s with
  | nil =>
    intro acc h x hx
    simp only [pieces, List.mem_cons, List.not_mem_nil, or_false] at hx
    subst hx
    exact ⟨h, fun c hc => .inl hc⟩
  | cons c r ih =>
    intro acc h x hx
    simp only [pieces] at hx
    split at hx
    · simp only [List.mem_cons] at hx
      rcases hx with rfl | hx
      · exact ⟨h, fun c hc => .inl hc⟩
      · obtain ⟨h1, h2⟩ := ih [] (by simp) x hx
        exact ⟨h1, fun d hd => by rcases h2 d hd with h3 | h3 <;> simp_all⟩
    · rename_i hc
      obtain ⟨h1, h2⟩ := ih (acc ++ [c]) (by intro d hd; simp only [List.mem_append, List.mem_cons, List.not_mem_nil, or_false] at hd; rcases hd with hd | rfl; exact h d hd; exact hc) x hx
      exact ⟨h1, fun d hd => by rcases h2 d hd with h3 | h3 <;> simp_all; rcases h3 with h3 | h3 <;> simp_all⟩

theorem parts_mem {s : List UInt8} {x : List UInt8} (hx : x ∈ partsV s) : x ≠ [] ∧ (∀ c ∈ x, c ≠ 47) ∧ ∀ c ∈ x, c ∈ s := by
  unfold partsV at hx
  rw [List.mem_filter] at hx
  obtain ⟨h1, h2⟩ := pieces_mem s [] (by simp) x hx.1
  refine ⟨by simpa [full] using hx.2, h1, fun c hc => ?_⟩
  rcases h2 c hc with h3 | h3
  · simp at h3
  · exact h3

theorem fold_mem : ∀ (l left : List (List UInt8)) (x : List UInt8), x ∈ l.foldl cstep left → x ∈ left ∨ (x ∈ l ∧ x ≠ [46] ∧ x ≠ [46, 46]) := by
  intro l
  induction l with
  | nil => intro left x hx; exact .inl hx
  | cons y l ih =>
    intro left x hx
    rw [List.foldl_cons] at hx
    rcases ih _ x hx with h | ⟨h1, h2⟩
    · unfold cstep at h
      split at h
      · exact .inl h
      · rename_i h3
        split at h
        · exact .inl ((List.dropLast_sublist left).subset h)
        · rename_i h4
          simp only [List.mem_append, List.mem_cons, List.not_mem_nil, or_false] at h
          rcases h with h | rfl
          · exact .inl h
          · exact .inr ⟨by simp, h3, h4⟩
    · exact .inr ⟨by simp [h1], h2⟩

theorem left_mem {s : List UInt8} {x : List UInt8} (hx : x ∈ leftV (partsV s)) : Good x ∧ ∀ c ∈ x, c ∈ s := by
  rcases fold_mem _ _ x hx with h | ⟨h1, h2, h3⟩
  · simp at h
  · obtain ⟨g1, g2, g3⟩ := parts_mem h1
    exact ⟨⟨g1, g2, h2, h3⟩, g3⟩

theorem joined_plain (l : List (List UInt8)) (h : ∀ x ∈ l, ∀ c ∈ x, plainC c = true) : plainV (joinedV l) = true := by
  unfold plainV
  simp only [Bool.and_eq_true, decide_eq_true_eq, List.all_eq_true]
  by_cases h0 : l = []
  · subst h0
    constructor
    · intro c hc; simp [joinedV] at hc; subst hc; decide
    · rfl
  · rw [joinedV_flat l h0]
    constructor
    · intro c hc
      unfold flat at hc
      rw [List.mem_flatMap] at hc
      obtain ⟨x, hx, hc⟩ := hc
      simp only [List.mem_cons] at hc
      rcases hc with rfl | hc
      · decide
      · exact h x hx c hc
    · cases l with
      | nil => exact absurd rfl h0
      | cons x r => rw [flat_cons]; rfl

/-- A joined list of good parts is right, if it is not too long. -/
theorem right_joined (l : List (List UInt8)) (h : ∀ x ∈ l, Good x) (hp : ∀ x ∈ l, ∀ c ∈ x, plainC c = true) (hl : (joinedV l).length ≤ 200) : cleanV (joinedV l) = (joinedV l, 0) ∧ rightV (joinedV l) = true := by
  have e : cleanV (joinedV l) = (joinedV l, 0) := by
    unfold cleanV
    rw [if_pos (joined_plain l hp), parts_joined l h, left_good l h, if_neg (by omega)]
  refine ⟨e, ?_⟩
  unfold rightV
  rw [e]
  simp

theorem plain_mem {s : List UInt8} (h : plainV s = true) : ∀ c ∈ s, plainC c = true := by
  unfold plainV at h
  simp only [Bool.and_eq_true, List.all_eq_true] at h
  exact h.1

theorem clean_again (s : List UInt8) (h : (cleanV s).2 = 0) : rightV (cleanV s).1 = true := by
  unfold cleanV at h ⊢
  split
  · rename_i hp
    rw [if_pos hp] at h
    split
    · rename_i hl
      rw [if_pos hl] at h
      simp at h
    · rename_i hl
      exact (right_joined _ (fun x hx => (left_mem hx).1) (fun x hx c hc => plain_mem hp c ((left_mem hx).2 c hc)) (by omega)).2
  · rename_i hp
    rw [if_neg hp] at h
    simp at h

/-- What a right path is. -/
theorem right_is {s : List UInt8} (h : rightV s = true) : (∀ x ∈ partsV s, Good x) ∧ s = joinedV (partsV s) ∧ s.length ≤ 200 ∧ ∀ x ∈ partsV s, ∀ c ∈ x, plainC c = true := by
  unfold rightV at h
  simp only [Bool.and_eq_true, decide_eq_true_eq] at h
  obtain ⟨h1, h2⟩ := h
  unfold cleanV at h1 h2
  split at h1
  · rename_i hp
    rw [if_pos hp] at h2
    split at h1
    · simp at h1
    · rename_i hl
      rw [if_neg hl] at h2
      simp only at h2
      have hg : ∀ x ∈ leftV (partsV s), Good x := fun x hx => (left_mem hx).1
      have e : partsV s = leftV (partsV s) := by
        conv => lhs; rw [← h2]
        exact parts_joined _ hg
      rw [e]
      refine ⟨hg, h2.symm, by rw [← h2]; omega, fun x hx c hc => plain_mem hp c ((left_mem hx).2 c hc)⟩
  · simp at h1

theorem PathCleans_true (s : List UInt8) : cellarerlaw02_PathCleans s = some true := by
  unfold cellarerlaw02_PathCleans
  simp only [awake2, Option.bind_some]
  by_cases c1 : (2000 : Int) < (s.length : Int)
  · simp [c1]
  · rw [clean_eq s (by omega), refClean_eq s (by omega), right_eq s (by omega), refRight_eq s (by omega)]
    simp only [c1, decide_false, cond_false, Option.bind_some, decide_true, Bool.not_true, Sum.elim_inr]
    by_cases h : (cleanV s).2 = 0
    · have hlen : (cleanV s).1.length < 1000000 := by
        have := clean_again s h
        obtain ⟨_, _, h3, _⟩ := right_is this
        omega
      rw [right_eq _ hlen, clean_again s h]
      simp [h]
    · simp [h]

/-! ### the last part -/

theorem refSplit_loop (s : List UInt8) (hs : s.length < 4611686018427387904) : ∀ (r : List UInt8) (k : Nat) (o : Int), s.drop k = r →
    iter (cellarerref02_Split_b0 s) (o, (k : Int)) = some (lastIdx 47 r k o) := by
  intro r
  induction r with
  | nil =>
    intro k o h
    have := drop_nil h
    rw [iter_inr (t := o)]
    · simp [lastIdx]
    · unfold cellarerref02_Split_b0
      simp [show ¬ k < s.length by omega]
  | cons x r ih =>
    intro k o h
    obtain ⟨h1, h2, h3⟩ := drop_cons h 0
    rw [iter_inl (s' := (if (x.toNat : Int) = 47 then (k : Int) else o, ((k + 1 : Nat) : Int))), ih _ _ h3]
    · simp [lastIdx]
    · unfold cellarerref02_Split_b0
      simp only [natlt, h1, decide_true, cond_true, Int.natCast_nonneg, and_self, if_true, Int.toNat_natCast, h2, kplus h1 hs]
      by_cases hx : (x.toNat : Int) = 47 <;> simp [hx]

def splitV (s : List UInt8) : List UInt8 × List UInt8 :=
  if lastIdx 47 s 0 (-1) < 0 then ([], s) else if lastIdx 47 s 0 (-1) = 0 then ([47], s.drop 1) else (s.take (lastIdx 47 s 0 (-1)).toNat, s.drop ((lastIdx 47 s 0 (-1)).toNat + 1))

theorem last_pos (s : List UInt8) (h : ¬ lastIdx 47 s 0 (-1) < 0) : lastIdx 47 s 0 (-1) < s.length := by
  have := last_lt 47 s 0 (-1) (by omega)
  omega

theorem split_eq (s : List UInt8) (hs : s.length < 1000000) : path_Split s = some (splitV s) := by
  unfold path_Split splitV
  rw [LastIndex2 s 47 (by omega)]
  have hp := last_pos s
  generalize lastIdx 47 s 0 (-1) = a at hp
  by_cases h1 : a < 0
  · simp [h1]
  · by_cases h2 : a = 0
    · subst h2
      have := hp h1
      simp only [Option.bind_some, h1, decide_false, cond_false, decide_true, cond_true, if_false, if_true]
      rw [if_pos (by omega), Int.toNat_natCast, List.take_length]
      rfl
    · have := hp h1
      simp only [Option.bind_some, h1, h2, decide_false, cond_false, if_false]
      rw [w64 (by omega) (by omega), if_pos (by omega), if_pos (by omega), Int.toNat_natCast, List.take_length, show (a + 1).toNat = a.toNat + 1 by omega]
      rfl

theorem refSplit_eq (s : List UInt8) (hs : s.length < 1000000) : cellarerref02_Split s = some (splitV s) := by
  unfold cellarerref02_Split splitV
  have := refSplit_loop s (by omega) s 0 (-1) rfl
  have e : iter (cellarerref02_Split_b0 s) ((-1 : Int), (0 : Int)) = some (lastIdx 47 s 0 (-1)) := this
  rw [e]
  have hp := last_pos s
  generalize lastIdx 47 s 0 (-1) = a at hp
  by_cases h1 : a < 0
  · simp [h1]
  · by_cases h2 : a = 0
    · subst h2
      have := hp h1
      simp only [Option.bind_some, h1, decide_false, cond_false, decide_true, cond_true, if_false, if_true]
      rw [if_pos (by omega), Int.toNat_natCast, List.take_length]
      rfl
    · have := hp h1
      simp only [Option.bind_some, h1, h2, decide_false, cond_false, if_false]
      rw [w64 (by omega) (by omega), if_pos (by omega), if_pos (by omega), Int.toNat_natCast, List.take_length, show (a + 1).toNat = a.toNat + 1 by omega]
      rfl

theorem lastNone (c : Int) : ∀ (l : List UInt8) (i o : Int), (∀ y ∈ l, (y.toNat : Int) ≠ c) → lastIdx c l i o = o := by
  intro l
  induction l with
  | nil => intro i o _; rfl
  | cons y l ih =>
    intro i o h
    simp only [lastIdx]
    rw [if_neg (h y (by simp)), ih _ _ (fun z hz => h z (by simp [hz]))]

theorem lastAt (c : Int) (x : UInt8) (q : List UInt8) (hx : (x.toNat : Int) = c) (hq : ∀ y ∈ q, (y.toNat : Int) ≠ c) : ∀ (p : List UInt8) (i o : Int), lastIdx c (p ++ x :: q) i o = i + p.length := by
  intro p
  induction p with
  | nil => intro i o; simp [lastIdx, hx, lastNone c q _ _ hq]
  | cons y p ih =>
    intro i o
    simp only [List.cons_append, lastIdx, ih, List.length_cons]
    omega

theorem flat_ends (a : List (List UInt8)) (x : List UInt8) (h : Good x) : endsSl (flat (a ++ [x])) = false := by
  unfold endsSl
  rw [flat_append, flat_cons]
  have hne := h.ne
  have e : flat a ++ 47 :: (x ++ flat []) = (flat a ++ [47]) ++ x := by simp [flat]
  obtain ⟨b, z, hz⟩ : ∃ b z, x = b ++ [z] := ⟨x.dropLast, x.getLast hne, (List.dropLast_concat_getLast hne).symm⟩
  have hz47 : z ≠ 47 := h.sl z (by rw [hz]; simp)
  rw [e, hz, ← List.append_assoc, List.getLast?_concat]
  simp [hz47]

/-- A good list, and one part more. -/
theorem joinP_joined (a : List (List UInt8)) (x : List UInt8) (h : ∀ y ∈ a, Good y) : joinP (joinedV a) x = flat a ++ 47 :: x := by
  by_cases h0 : a = []
  · subst h0; simp [joinP, joinedV, endsSl, flat]
  · rw [joinedV_flat a h0]
    obtain ⟨b, y, rfl⟩ : ∃ b y, a = b ++ [y] := ⟨a.dropLast, a.getLast h0, (List.dropLast_concat_getLast h0).symm⟩
    unfold joinP
    rw [flat_ends b y (h y (by simp))]
    simp

theorem split_right (s : List UInt8) (h : rightV s = true) : joinP (splitV s).1 (splitV s).2 = s := by
  obtain ⟨hg, hs, _, _⟩ := right_is h
  generalize partsV s = l at hg hs
  subst hs
  by_cases h0 : l = []
  · subst h0; rfl
  · obtain ⟨b, y, rfl⟩ : ∃ b y, l = b ++ [y] := ⟨l.dropLast, l.getLast h0, (List.dropLast_concat_getLast h0).symm⟩
    have hy := hg y (by simp)
    have e : joinedV (b ++ [y]) = flat b ++ 47 :: y := by
      rw [joinedV_flat _ h0, flat_append, flat_cons]; simp [flat]
    rw [e]
    have hl := lastAt 47 47 y (by decide) (fun z hz => by rw [ne_eq, u8_47]; exact hy.sl z hz) (flat b) 0 (-1)
    unfold splitV
    rw [hl]
    by_cases hb : b = []
    · subst hb
      simp [flat, joinP, endsSl]
    · have hpos : 0 < (flat b).length := by
        cases b with
        | nil => exact absurd rfl hb
        | cons z r => rw [flat_cons]; simp
      rw [if_neg (by omega), if_neg (by omega)]
      have e2 : ((0 : Int) + ((flat b).length : Int)).toNat = (flat b).length := by omega
      rw [e2, List.take_left, show (flat b ++ 47 :: y).drop ((flat b).length + 1) = y by rw [← List.drop_drop, List.drop_left]; rfl]
      have := joinP_joined b y (fun z hz => hg z (by simp [hz]))
      rw [joinedV_flat b hb] at this
      exact this

theorem PathSplits_true (s dir name : List UInt8) : cellarerlaw02_PathSplits s dir name = some true := by
  unfold cellarerlaw02_PathSplits
  simp only [awake2, Option.bind_some]
  by_cases c1 : (2000 : Int) < (s.length : Int)
  · simp [c1]
  · by_cases c2 : (2000 : Int) < (dir.length : Int)
    · simp [c1, c2]
    · by_cases c3 : (2000 : Int) < (name.length : Int)
      · simp [c1, c2, c3]
      · rw [split_eq s (by omega), refSplit_eq s (by omega), join_eq dir name (by omega) (by omega), refJoin_eq dir name (by omega) (by omega), right_eq s (by omega)]
        simp only [c1, c2, c3, decide_false, cond_false, Option.bind_some, decide_true, Bool.not_true, Sum.elim_inr]
        cases hr : rightV s
        · simp
        · have hlen : (splitV s).1.length ≤ s.length + 1 ∧ (splitV s).2.length ≤ s.length := by
            unfold splitV
            split
            · simp
            · split
              · simp
              · simp; omega
          rw [join_eq _ _ (by omega) (by omega), split_right s hr]
          simp

end Go.Cellar
