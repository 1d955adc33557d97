/- PathParts, as a plain law. No condition. -/
import Derived.Test.YtmeglodejjkmoaaDoorPl2d
set_option linter.unusedSimpArgs false
set_option linter.unusedVariables false
namespace Go.Cellar
open Go

/-- Are two lists one, from a place on? -/
theorem same_loop (a b : List (List UInt8)) (hab : a.length = b.length) (ha : a.length < 1000002) : iter (cellarerref02_Same_b0 a b) (0 : Int) = some (if a = b then .inr () else .inl ()) := by
  have key : ∀ (r : List (List UInt8)) (k : Nat), a.drop k = r → iter (cellarerref02_Same_b0 a b) (k : Int) = some (if r = b.drop k then .inr () else .inl ()) := by
    intro r
    induction r with
    | nil =>
      intro k h
      have := drop_nil h
      have hb : b.drop k = [] := List.drop_eq_nil_of_le (by omega)
      rw [iter_inr (t := .inr ()), hb]
      · simp
      · unfold cellarerref02_Same_b0
        simp [show ¬ k < a.length by omega]
    | cons x r ih =>
      intro k h
      obtain ⟨g1, g2, g3⟩ := drop_cons h []
      have hkb : k < b.length := by omega
      have hb : b.drop k = b.getD k [] :: b.drop (k + 1) := by
        rw [List.drop_eq_getElem_cons hkb, List.getD_eq_getElem?_getD, List.getElem?_eq_getElem hkb]; rfl
      have hbody : cellarerref02_Same_b0 a b (k : Int) = some (if x = b.getD k [] then .inl ((k + 1 : Nat) : Int) else .inr (.inl ())) := by
        unfold cellarerref02_Same_b0
        simp only [natlt, g1, hkb, decide_true, cond_true, Int.natCast_nonneg, true_and, and_self, if_true, Int.toNat_natCast, g2, kplus g1 (by omega)]
        by_cases hx : x = b.getD k []
        · rw [if_pos hx, decide_eq_true hx]; rfl
        · rw [if_neg hx, decide_eq_false hx]; rfl
      by_cases hx : x = b.getD k []
      · rw [if_pos hx] at hbody
        rw [iter_inl hbody, ih (k + 1) g3, hb, ← hx]
        simp
      · rw [if_neg hx] at hbody
        rw [iter_inr hbody, hb, if_neg (fun e => hx (by simp only [List.cons.injEq] at e; exact e.1))]
  have := key a 0 rfl
  simpa using this

theorem same_eq (a b : List (List UInt8)) (ha : a.length < 1000002) : cellarerref02_Same a b = some (decide (a = b)) := by
  unfold cellarerref02_Same
  by_cases h : a.length = b.length
  · have hd : decide ((a.length : Int) = (b.length : Int)) = true := by simp; omega
    simp only [hd, Bool.not_true, cond_false]
    rw [same_loop a b h ha]
    by_cases hab : a = b <;> simp [hab]
  · have hd : decide ((a.length : Int) = (b.length : Int)) = false := by simp; omega
    have hab : a ≠ b := fun e => h (by rw [e])
    simp [hd, hab]

def parent (l : List (List UInt8)) (i : Nat) : List UInt8 := joinedV (l.take i)
def parentsV (l : List (List UInt8)) : List (List UInt8) := (List.range l.length).map (parent l)

theorem tot_take (l : List (List UInt8)) (i : Nat) : tot (l.take i) ≤ tot l := by
  conv => rhs; rw [← List.take_append_drop i l]
  rw [tot_append]; omega

theorem refParents_loop (l : List (List UInt8)) (hl : tot l < 2000002) : ∀ (n k : Nat), l.length - k = n → k ≤ l.length →
    iter (cellarerref02_Parents_b0 l) ((k : Int), (List.range k).map (parent l)) = some (parentsV l) := by
  have hlen := len_tot l
  intro n
  induction n with
  | zero =>
    intro k h hk
    have e : k = l.length := by omega
    subst e
    rw [iter_inr (t := parentsV l)]
    unfold cellarerref02_Parents_b0
    simp [parentsV]
  | succ n ih =>
    intro k h hk
    have hk' : k < l.length := by omega
    have := tot_take l k
    rw [iter_inl (s' := (((k + 1 : Nat) : Int), (List.range (k + 1)).map (parent l))), ih (k + 1) (by omega) (by omega)]
    unfold cellarerref02_Parents_b0
    have hc : (0 : Int) ≤ 0 ∧ (0 : Int) ≤ (k : Int) ∧ (0 : Int) + (k : Int) ≤ (l.length : Int) := by omega
    simp only [c0, Int.sub_zero, natlt, hk', decide_true, cond_true, hc, and_self, if_true, Nat.zero_add, Int.toNat_natCast, List.drop_zero, refJoined_eq (l.take k) (by omega), Option.bind_some, List.length_map, List.length_range, List.length_cons, List.length_nil, kplus hk' (by omega)]
    rw [if_pos (by omega), List.range_succ, List.map_append]
    rfl

theorem parents_loop (l : List (List UInt8)) (hg : ∀ x ∈ l, x ≠ [] ∧ ∀ c ∈ x, c ≠ 47) (hl : tot l < 900000) : ∀ (n k : Nat) (at_ : List UInt8), l.length - k = n → k ≤ l.length → (k < l.length → at_ = parent l k) →
    iter (path_Parents_b0 ((l.length : Int) - 0) l) (at_, (k : Int), (List.range k).map (parent l)) = some (parentsV l) := by
  have hlen := len_tot l
  intro n
  induction n with
  | zero =>
    intro k a h hk ha
    have e : k = l.length := by omega
    subst e
    rw [iter_inr (t := parentsV l)]
    unfold path_Parents_b0
    simp [parentsV]
  | succ n ih =>
    intro k a h hk ha
    have hk' : k < l.length := by omega
    have hat := ha hk'
    subst hat
    have h1 := tot_take l k
    have h2 := joinedV_len (l.take k)
    have hx : l.getD k [] = l[k] := by rw [List.getD_eq_getElem?_getD, List.getElem?_eq_getElem hk']; rfl
    have hxl : (l.getD k []).length ≤ tot l := by
      have := len_tot l
      have e : tot l = tot (l.take k) + (l[k].length + 1 + tot (l.drop (k + 1))) := by
        conv => lhs; rw [← List.take_append_drop k l, tot_append, List.drop_eq_getElem_cons hk', tot_cons]
      rw [hx]; omega
    have hnext : joinP (parent l k) (l.getD k []) = parent l (k + 1) := by
      have e : l.take (k + 1) = l.take k ++ [l[k]] := by rw [List.take_add_one, List.getElem?_eq_getElem hk']; rfl
      have ends : ∀ (b : List (List UInt8)) (y : List UInt8), (y ≠ [] ∧ ∀ c ∈ y, c ≠ 47) → endsSl (flat (b ++ [y])) = false := by
        intro b y hy
        unfold endsSl
        rw [flat_append, flat_cons]
        have e : flat b ++ 47 :: (y ++ flat []) = (flat b ++ [47]) ++ y := by simp [flat]
        obtain ⟨d, z, hz⟩ : ∃ d z, y = d ++ [z] := ⟨y.dropLast, y.getLast hy.1, (List.dropLast_concat_getLast hy.1).symm⟩
        have hz47 : z ≠ 47 := hy.2 z (by rw [hz]; simp)
        rw [e, hz, ← List.append_assoc, List.getLast?_concat]
        simp [hz47]
      unfold parent
      rw [e, hx]
      by_cases h0 : l.take k = []
      · rw [h0]; simp [joinP, joinedV, endsSl]
      · rw [joinedV_flat _ h0, joinedV_flat _ (fun e => by rw [List.append_eq_nil_iff] at e; cases e.2)]
        obtain ⟨b, y, hby⟩ : ∃ b y, l.take k = b ++ [y] := ⟨(l.take k).dropLast, (l.take k).getLast h0, (List.dropLast_concat_getLast h0).symm⟩
        have hy : y ∈ l := List.mem_of_mem_take (by rw [hby]; simp)
        unfold joinP
        rw [hby, ends b y (hg y hy)]
        simp [flat]
    have hlist : (List.range k).map (parent l) ++ [parent l k] = (List.range (k + 1)).map (parent l) := by rw [List.range_succ, List.map_append]; rfl
    have hwrap := kplus hk' (by omega)
    have hpl : (parent l k).length < 1000000 := by unfold parent; omega
    rw [iter_inl (s' := (if k + 1 < l.length then parent l (k + 1) else parent l k, ((k + 1 : Nat) : Int), (List.range (k + 1)).map (parent l)))]
    · exact ih (k + 1) _ (by omega) (by omega) (fun h => by rw [if_pos h])
    · unfold path_Parents_b0
      simp only [c0, Int.sub_zero, Int.add_zero, natlt, hk', decide_true, cond_true, Int.natCast_nonneg, true_and, if_true, Nat.zero_add, Int.toNat_natCast, List.drop_zero, List.length_map, List.length_range, List.length_cons, List.length_nil, hwrap, join_eq (parent l k) (l.getD k []) hpl (by omega), hnext, hlist, Option.bind_some]
      rw [if_pos (by omega)]
      by_cases hlast : k + 1 < l.length <;> simp [hlast]

theorem parents_eq (s : List UInt8) (hs : s.length < 100000) : path_Parents s = some (parentsV (partsV s)) := by
  unfold path_Parents
  rw [parts_eq s (by omega)]
  have ht := tot_parts s
  have := parents_loop (partsV s) (fun x hx => ⟨(parts_mem hx).1, (parts_mem hx).2.1⟩) (by omega) _ 0 [47] rfl (by omega) (fun h => by simp [parent, joinedV])
  have e : iter (path_Parents_b0 (((partsV s).length : Int) - ((0 : Nat) : Int)) (partsV s)) ([47], (0 : Int), []) = some (parentsV (partsV s)) := this
  simp only [Option.bind_some, e]

theorem refParents_eq (s : List UInt8) (hs : s.length < 100000) : cellarerref02_Parents s = some (parentsV (partsV s)) := by
  unfold cellarerref02_Parents
  rw [refParts_eq s (by omega)]
  have ht := tot_parts s
  have := refParents_loop (partsV s) (by omega) _ 0 rfl (by omega)
  have e : iter (cellarerref02_Parents_b0 (partsV s)) ((0 : Int), []) = some (parentsV (partsV s)) := this
  simp only [Option.bind_some, e]

/-- A right path's parents are right, and it is under each. -/
theorem parent_right {s : List UInt8} (h : rightV s = true) (k : Nat) (hk : k < (partsV s).length) : rightV (parent (partsV s) k) = true ∧ underV (parent (partsV s) k) s = true ∧ (parent (partsV s) k).length < s.length + 1 := by
  obtain ⟨hg, hs, hl, hp⟩ := right_is h
  generalize partsV s = l at *
  have hne : l ≠ [] := by rintro rfl; simp at hk
  have hsplit : s = flat (l.take k) ++ 47 :: (l[k] ++ flat (l.drop (k + 1))) := by
    rw [hs, joinedV_flat l hne]
    conv => lhs; rw [← List.take_append_drop k l, flat_append, List.drop_eq_getElem_cons hk, flat_cons]
  have hxk := hg l[k] (List.getElem_mem hk)
  have hxlen : 0 < (l[k]).length := List.length_pos_iff.mpr hxk.ne
  have hpre : ∀ x ∈ l.take k, x ∈ l := fun x hx => List.mem_of_mem_take hx
  have hhead : joinP (parent l k) [] = flat (l.take k) ++ [47] := by
    unfold parent
    rw [joinP_joined _ _ (fun y hy => hg y (hpre y hy))]
  have hslen : s.length = (flat (l.take k)).length + 1 + ((l[k]).length + (flat (l.drop (k + 1))).length) := by
    conv => lhs; rw [hsplit]
    simp
    omega
  have hplen : (parent l k).length ≤ (flat (l.take k)).length + 1 := by
    unfold parent joinedV
    split
    · simp
    · exact Nat.le_succ _
  refine ⟨(right_joined _ (fun x hx => hg x (hpre x hx)) (fun x hx => hp x (hpre x hx)) (by unfold parent at hplen; omega)).2, ?_, by omega⟩
  unfold underV
  rw [hhead]
  simp only [Bool.and_eq_true, decide_eq_true_eq]
  constructor
  · conv => lhs; arg 2; rw [hsplit]
    rw [show flat (l.take k) ++ 47 :: (l[k] ++ flat (l.drop (k + 1))) = (flat (l.take k) ++ [47]) ++ (l[k] ++ flat (l.drop (k + 1))) by simp, List.take_left]
  · rw [List.length_append]
    simp
    omega

theorem partsLaw_loop (s : List UInt8) (hs : s.length ≤ 1000) : ∀ (n k : Nat), (partsV s).length - k = n → k ≤ (partsV s).length →
    iter (cellarerlaw02_PathParts_b0 s (parentsV (partsV s))) (k : Int) = some (.inr ()) := by
  have hlen : (parentsV (partsV s)).length = (partsV s).length := by simp [parentsV]
  have ht := tot_parts s
  have hl := len_tot (partsV s)
  intro n
  induction n with
  | zero =>
    intro k h hk
    rw [iter_inr (t := .inr ())]
    unfold cellarerlaw02_PathParts_b0
    rw [hlen]
    simp [show ¬ k < (partsV s).length by omega]
  | succ n ih =>
    intro k h hk
    have hk' : k < (partsV s).length := by omega
    rw [iter_inl (s' := ((k + 1 : Nat) : Int)), ih (k + 1) (by omega) (by omega)]
    unfold cellarerlaw02_PathParts_b0
    simp only [hlen, c0, Int.sub_zero, Int.add_zero, natlt, hk', decide_true, cond_true, Int.natCast_nonneg, true_and, if_true, Nat.zero_add, Int.toNat_natCast, right_eq s (by omega), Option.bind_some, kplus hk' (by omega)]
    cases hr : rightV s
    · rfl
    · have hget : (parentsV (partsV s)).getD k [] = parent (partsV s) k := by
        rw [List.getD_eq_getElem?_getD]
        simp [parentsV, hk']
      obtain ⟨h1, h2, h3⟩ := parent_right hr k hk'
      simp only [hget, right_eq (parent (partsV s) k) (by omega), under_eq (parent (partsV s) k) s (by omega), h1, h2, Option.bind_some, cond_true, Bool.not_true, cond_false]

theorem PathParts_true (s : List UInt8) : cellarerlaw02_PathParts s = some true := by
  unfold cellarerlaw02_PathParts
  simp only [awake2, Option.bind_some]
  by_cases c1 : (1000 : Int) < (s.length : Int)
  · simp [c1]
  · have ht := tot_parts s
    have hl := len_tot (partsV s)
    have hpl : (parentsV (partsV s)).length = (partsV s).length := by simp [parentsV]
    have hloop := partsLaw_loop s (by omega) _ 0 rfl (by omega)
    have e : iter (cellarerlaw02_PathParts_b0 s (parentsV (partsV s))) (0 : Int) = some (.inr ()) := hloop
    simp only [c1, decide_false, cond_false, parents_eq s (by omega), refParents_eq s (by omega), parts_eq s (by omega), refParts_eq s (by omega), Option.bind_some, List.drop_zero, same_eq (partsV s) _ (by omega), same_eq (parentsV (partsV s)) _ (by omega), decide_true, Bool.not_true, Sum.elim_inr, e, right_eq s (by omega), refJoined_eq (partsV s) (by omega)]
    cases hr : rightV s
    · rfl
    · obtain ⟨_, h2, _, _⟩ := right_is hr
      rw [← h2]
      simp

end Go.Cellar
