/- With whom a package may not be, and who leans on a name. No condition. -/
import Derived.Test.YtapfjjbgcfnnmaaDoorPl20o
set_option linter.unusedSimpArgs false
set_option linter.unusedVariables false
set_option maxRecDepth 8000
set_option synthInstance.maxHeartbeats 2000000
set_option synthInstance.maxSize 9223372036854775807
namespace Go.Cellar
open Go

def againstV (l : List Rl) (n v : List UInt8) : Bool := l.any fun x => fitsV x n v

theorem against_loop (l : List Rl) (n v : List UInt8) (hl : SmG l) (hv : v.length ≤ 9223372036854775807) : ∀ (r : List Rl) (k : Nat), l.drop k = r →
    ∃ x, iter (api_Rel__45_b0 l ((l.length : Nat) : Int)) ((k : Int), n, v) = some x ∧ ((r.any fun x => fitsV x n v) = true → ∃ m : Nat, x = .inl ((m : Int), n, v)) ∧ ((r.any fun x => fitsV x n v) = false → x = .inr (n, v)) := by
  intro r
  induction r with
  | nil =>
    intro k h
    have hk := drop_nil h
    refine ⟨.inr (n, v), iter_inr ?_, fun h => by simp at h, fun _ => rfl⟩
    unfold api_Rel__45_b0
    simp [show ¬ k < l.length by omega]
  | cons y r ih =>
    intro k h
    obtain ⟨g1, g2, g3⟩ := drop_cons h ([], [], [])
    have hy := hl.2 y (List.mem_of_mem_drop (by rw [h]; simp))
    have hll := hl.1
    cases hf : fitsV y n v with
    | true =>
      refine ⟨.inl ((k : Int), n, v), iter_inr ?_, fun _ => ⟨k, rfl⟩, fun h => by simp [hf] at h⟩
      unfold api_Rel__45_b0 check_against_1
      simp only [natlt, g1, decide_true, cond_true, Int.natCast_nonneg, true_and, if_true, Int.toNat_natCast, g2, fits_eq y.1 y.2.1 y.2.2 n v hy hv, hf, Option.bind_some]
    | false =>
      obtain ⟨x, h1, h2, h3⟩ := ih (k + 1) g3
      refine ⟨x, ?_, fun h => h2 (by simpa [hf] using h), fun h => h3 (by simpa [hf] using h)⟩
      rw [iter_inl (s' := (((k + 1 : Nat) : Int), n, v))]
      · exact h1
      · unfold api_Rel__45_b0 check_against_1
        simp only [natlt, g1, decide_true, cond_true, Int.natCast_nonneg, true_and, if_true, Int.toNat_natCast, g2, fits_eq y.1 y.2.1 y.2.2 n v hy hv, hf, Option.bind_some, cond_false, kplus g1 (by omega)]

theorem against_eq (l : List Rl) (n v : List UInt8) (hl : SmG l) (hv : v.length ≤ 9223372036854775807) : check_against l n v = some (againstV l n v) := by
  unfold check_against api_Rel_ api_Rel__45 againstV
  obtain ⟨x, h1, h2, h3⟩ := against_loop l n v hl hv l 0 rfl
  have h1' : iter (api_Rel__45_b0 l ((l.length : Nat) : Int)) ((0 : Int), n, v) = some x := h1
  rw [h1']
  cases ha : l.any fun x => fitsV x n v with
  | true =>
    obtain ⟨m, rfl⟩ := h2 ha
    simp only [Option.bind_some, Sum.elim_inl]
    rw [decide_eq_true (by omega)]
  | false =>
    rw [h3 ha]
    rfl

theorem refAgainst_eq (l : List Rl) (n v : List UInt8) (hl : SmG l) (hv : v.length ≤ 9223372036854775807) : cellarerref20_against l n v = some (againstV l n v) := by
  unfold cellarerref20_against againstV
  have := all_loop (cellarerref20_against_b0 l n v) (fun _ y => !fitsV y n v) l (fun k hk => by
    unfold cellarerref20_against_b0
    simp [show ¬ k < l.length by omega]) (fun k y r h => by
    obtain ⟨g1, g2, g3⟩ := drop_cons h ([], [], [])
    have hy := hl.2 y (List.mem_of_mem_drop (by rw [h]; simp))
    have hll := hl.1
    unfold cellarerref20_against_b0
    simp only [natlt, g1, decide_true, cond_true, Int.natCast_nonneg, true_and, if_true, Int.toNat_natCast, g2, refFits_eq y.1 y.2.1 y.2.2 n v hy hv, Option.bind_some, kplus g1 (by omega)]
    cases fitsV y n v <;> rfl) l 0 rfl
  have h2 : iter (cellarerref20_against_b0 l n v) (0 : Int) = _ := this
  rw [h2, allFrom_all, ← List.not_any_eq_all_not]
  cases l.any fun y => fitsV y n v <;> rfl

/-- Records small enough, but for what they lean on. -/
def SmC (x : Rec) : Prop := x.2.1.length ≤ 9223372036854775807 ∧ SmG x.2.2.2.2.1

def confP (n v : List UInt8) (c : List Rl) (x : Rec) : Bool := !decide (x.1 = n) && (!decide (x.2.2.1 = 1) && (againstV c x.1 x.2.1 || againstV x.2.2.2.2.1 n v))

theorem conf_loop (l : List Rec) (n v : List UInt8) (c : List Rl) (hl : l.length < 1000000) (h : ∀ x ∈ l, SmC x) (hc : SmG c) (hv : v.length ≤ 9223372036854775807) :
    iter (check_Conflicts_b0 l ((l.length : Nat) : Int) n v c) ((0 : Int), []) = some ((l.filter (confP n v c)).map fun x => x.1) := by
  have := pick_loop (check_Conflicts_b0 l ((l.length : Nat) : Int) n v c) (confP n v c) (fun x => x.1) l (fun k out hk => by
    unfold check_Conflicts_b0
    simp [show ¬ k < l.length by omega]) (fun k x r out hd ho => by
    obtain ⟨g1, g2, g3⟩ := drop_cons hd z9
    have hx := h x (List.mem_of_mem_drop (by rw [hd]; simp))
    unfold check_Conflicts_b0 confP
    simp only [natlt, g1, decide_true, cond_true, Int.natCast_nonneg, true_and, if_true, Int.toNat_natCast, g2, kplus g1 (by omega)]
    rw [against_eq c x.1 x.2.1 hc hx.1, against_eq x.2.2.2.2.1 n v hx.2 hv]
    by_cases h1 : x.1 = n
    · rw [decide_eq_true h1]; rfl
    · rw [decide_eq_false h1]
      by_cases h2 : x.2.2.1 = 1
      · rw [decide_eq_true h2]; rfl
      · rw [decide_eq_false h2]
        cases againstV c x.1 x.2.1 with
        | true => simp only [cond_false, Option.bind_some, Sum.elim_inr, cond_true]; rw [if_pos (by simp; omega)]; rfl
        | false =>
          cases againstV x.2.2.2.2.1 n v with
          | true => simp only [cond_false, Option.bind_some, Sum.elim_inr, cond_true]; rw [if_pos (by simp; omega)]; rfl
          | false => rfl) l 0 [] rfl (by simp)
  have h2 : iter (check_Conflicts_b0 l ((l.length : Nat) : Int) n v c) ((0 : Int), []) = some ([] ++ (l.filter (confP n v c)).map fun x => x.1) := this
  rw [h2, List.nil_append]

theorem refConf_loop (l : List Rec) (n v : List UInt8) (c : List Rl) (hl : l.length < 1000000) (h : ∀ x ∈ l, SmC x) (hc : SmG c) (hv : v.length ≤ 9223372036854775807) :
    iter (cellarerref20_Conflicts_b0 l n v c) ((0 : Int), []) = some ((l.filter (confP n v c)).map fun x => x.1) := by
  have := pick_loop (cellarerref20_Conflicts_b0 l n v c) (confP n v c) (fun x => x.1) l (fun k out hk => by
    unfold cellarerref20_Conflicts_b0
    simp [show ¬ k < l.length by omega]) (fun k x r out hd ho => by
    obtain ⟨g1, g2, g3⟩ := drop_cons hd z9
    have hx := h x (List.mem_of_mem_drop (by rw [hd]; simp))
    unfold cellarerref20_Conflicts_b0 confP
    simp only [natlt, g1, decide_true, cond_true, Int.natCast_nonneg, true_and, if_true, Int.toNat_natCast, g2, kplus g1 (by omega)]
    rw [refAgainst_eq c x.1 x.2.1 hc hx.1, refAgainst_eq x.2.2.2.2.1 n v hx.2 hv]
    by_cases h1 : x.1 = n
    · rw [decide_eq_true h1]; rfl
    · rw [decide_eq_false h1]
      by_cases h2 : x.2.2.1 = 1
      · rw [decide_eq_true h2]; rfl
      · rw [decide_eq_false h2]
        cases againstV c x.1 x.2.1 with
        | true => simp only [Bool.not_false, cond_true, Option.bind_some]; rw [if_pos (by simp; omega)]; rfl
        | false =>
          cases againstV x.2.2.2.2.1 n v with
          | true => simp only [Bool.not_false, cond_true, cond_false, Option.bind_some]; rw [if_pos (by simp; omega)]; rfl
          | false => rfl) l 0 [] rfl (by simp)
  have h2 : iter (cellarerref20_Conflicts_b0 l n v c) ((0 : Int), []) = some ([] ++ (l.filter (confP n v c)).map fun x => x.1) := this
  rw [h2, List.nil_append]

/-! ### who leans on a name -/

def needP (l d : List Rec) (x : Rec) : Bool := (decide (5 ≤ x.2.2.1) && decide (x.2.2.1 ≤ 7)) && decide ((missV l x.2.2.2.1).length < (missV d x.2.2.2.1).length)

theorem need_loop (l d : List Rec) (a1 a2 a3 a4 a5 a6 b1 b2 b3 b4 b5 b6) (hl : l.length < 1000000) (h : ∀ x ∈ l, SmR x) (hd : d.length < 1000000) (hds : ∀ x ∈ d, SmR x) :
    iter (check_Needed_b0 (((d.length : Nat) : Int) - ((0 : Nat) : Int)) l a1 a2 a3 a4 a5 a6 b1 b2 b3 b4 b5 b6 d) ((0 : Int), []) = some ((d.filter (needP l d)).map fun x => x.1) := by
  have := pick_loop (check_Needed_b0 (((d.length : Nat) : Int) - ((0 : Nat) : Int)) l a1 a2 a3 a4 a5 a6 b1 b2 b3 b4 b5 b6 d) (needP l d) (fun x => x.1) d (fun k out hk => by
    unfold check_Needed_b0
    simp only [Prod.snd, Prod.fst]
    rw [decide_eq_false (by omega)]
    rfl) (fun k x r out hdd ho => by
    obtain ⟨g1, g2, g3⟩ := drop_cons hdd z9
    have hx := hds x (List.mem_of_mem_drop (by rw [hdd]; simp))
    unfold check_Needed_b0 needP
    simp only [Prod.snd, Prod.fst]
    rw [decide_eq_true (by omega), if_pos (by omega), if_pos (by rw [Int.toNat_natCast]; omega), kplus g1 (by omega)]
    simp only [cond_true, Int.toNat_natCast, Nat.zero_add, g2, List.drop_zero]
    rw [missing_eq d _ _ _ _ _ _ _ hd hds hx.2.1 hx.2.2.1, missing_eq l _ _ _ _ _ _ _ hl h hx.2.1 hx.2.2.1]
    have hcase : (bif decide (x.2.2.1 = 7) then some true else bif decide (x.2.2.1 = 6) then some true else some (decide (x.2.2.1 = 5))) = some (decide (5 ≤ x.2.2.1) && decide (x.2.2.1 ≤ 7)) := by
      by_cases h7 : x.2.2.1 = 7
      · rw [h7]; rfl
      · by_cases h6 : x.2.2.1 = 6
        · rw [h6]; rfl
        · rw [decide_eq_false h7, decide_eq_false h6]
          by_cases h5 : x.2.2.1 = 5
          · rw [h5]; rfl
          · rw [decide_eq_false h5]
            by_cases hq : 5 ≤ x.2.2.1
            · rw [decide_eq_false (show ¬ x.2.2.1 ≤ 7 by omega)]; simp
            · rw [decide_eq_false hq]; rfl
    rw [hcase]
    simp only [Option.bind_some]
    cases (decide (5 ≤ x.2.2.1) && decide (x.2.2.1 ≤ 7)) with
    | false => rfl
    | true =>
      simp only [cond_true, Bool.true_and]
      by_cases hm : (missV l x.2.2.2.1).length < (missV d x.2.2.2.1).length
      · rw [decide_eq_true (show (((missV l x.2.2.2.1).length : Nat) : Int) - ((0 : Nat) : Int) < (((missV d x.2.2.2.1).length : Nat) : Int) - ((0 : Nat) : Int) by omega), decide_eq_true hm, if_pos (by simp; omega)]
        rfl
      · rw [decide_eq_false (show ¬ (((missV l x.2.2.2.1).length : Nat) : Int) - ((0 : Nat) : Int) < (((missV d x.2.2.2.1).length : Nat) : Int) - ((0 : Nat) : Int) by omega), decide_eq_false hm]
        rfl) d 0 [] rfl (by simp)
  have h2 : iter (check_Needed_b0 (((d.length : Nat) : Int) - ((0 : Nat) : Int)) l a1 a2 a3 a4 a5 a6 b1 b2 b3 b4 b5 b6 d) ((0 : Int), []) = some ([] ++ (d.filter (needP l d)).map fun x => x.1) := this
  rw [h2, List.nil_append]

theorem refNeed_loop (l d : List Rec) (a1 a2 a3 a4 a5 a6) (hl : l.length < 1000000) (h : ∀ x ∈ l, SmR x) (hd : d.length < 1000000) (hds : ∀ x ∈ d, SmR x) :
    iter (cellarerref20_Needed_b0 l a1 a2 a3 a4 a5 a6 d) ((0 : Int), []) = some ((d.filter (needP l d)).map fun x => x.1) := by
  have := pick_loop (cellarerref20_Needed_b0 l a1 a2 a3 a4 a5 a6 d) (needP l d) (fun x => x.1) d (fun k out hk => by
    unfold cellarerref20_Needed_b0
    simp only [Prod.snd, Prod.fst]
    rw [decide_eq_false (by omega)]
    rfl) (fun k x r out hdd ho => by
    obtain ⟨g1, g2, g3⟩ := drop_cons hdd z9
    have hx := hds x (List.mem_of_mem_drop (by rw [hdd]; simp))
    unfold cellarerref20_Needed_b0 needP
    simp only [Prod.snd, Prod.fst]
    rw [decide_eq_true (by omega), if_pos (by omega), if_pos (by rw [Int.toNat_natCast]; omega), kplus g1 (by omega)]
    simp only [cond_true, Int.toNat_natCast, Nat.zero_add, g2, List.drop_zero]
    rw [refMissing_eq d _ _ _ _ _ _ _ hd hds hx.2.1 hx.2.2.1, refMissing_eq l _ _ _ _ _ _ _ hl h hx.2.1 hx.2.2.1]
    by_cases h5 : 5 ≤ x.2.2.1
    · rw [decide_eq_true h5]
      by_cases h7 : x.2.2.1 ≤ 7
      · rw [decide_eq_true h7]
        simp only [cond_true, Option.bind_some, Bool.true_and]
        by_cases hm : (missV l x.2.2.2.1).length < (missV d x.2.2.2.1).length
        · rw [decide_eq_true (show (((missV l x.2.2.2.1).length : Nat) : Int) - ((0 : Nat) : Int) < (((missV d x.2.2.2.1).length : Nat) : Int) - ((0 : Nat) : Int) by omega), decide_eq_true hm, if_pos (by simp; omega)]
          rfl
        · rw [decide_eq_false (show ¬ (((missV l x.2.2.2.1).length : Nat) : Int) - ((0 : Nat) : Int) < (((missV d x.2.2.2.1).length : Nat) : Int) - ((0 : Nat) : Int) by omega), decide_eq_false hm]
          rfl
      · rw [decide_eq_false h7]; rfl
    · rw [decide_eq_false h5]; rfl) d 0 [] rfl (by simp)
  have h2 : iter (cellarerref20_Needed_b0 l a1 a2 a3 a4 a5 a6 d) ((0 : Int), []) = some ([] ++ (d.filter (needP l d)).map fun x => x.1) := this
  rw [h2, List.nil_append]

end Go.Cellar
