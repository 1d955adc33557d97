/- Reserved places, links, names. No condition. -/
import Derived.Test.YtapokbncaidgdaaDoorPl19b
set_option linter.unusedSimpArgs false
set_option linter.unusedVariables false
set_option maxRecDepth 4000
namespace Go.Cellar
open Go

def endsW (s e : List UInt8) : Bool := decide (e.length ≤ s.length) && decide (s.drop (s.length - e.length) = e)

theorem ends_eq (s e : List UInt8) (hs : s.length < 4611686018427387904) (he : e.length < 4611686018427387904) : strings_HasSuffix s e = some (endsW s e) := by
  unfold strings_HasSuffix stringslite_HasSuffix endsW
  by_cases h : e.length ≤ s.length
  · rw [decide_eq_true (show ((e.length : Nat) : Int) ≤ (s.length : Int) by omega), w64 (n := (s.length : Int) - (e.length : Int)) (by omega) (by omega)]
    simp only [cond_true]
    rw [if_pos (by omega), show ((s.length : Int) - (e.length : Int)).toNat = s.length - e.length by omega, Int.toNat_natCast, List.take_length, decide_eq_true h]
    rfl
  · rw [decide_eq_false (show ¬ ((e.length : Nat) : Int) ≤ (s.length : Int) by omega), decide_eq_false h]
    rfl

theorem refEnds_eq (s e : List UInt8) (hs : s.length < 4611686018427387904) (he : e.length < 4611686018427387904) : cellarerref19_Ends s e = some (endsW s e) := by
  unfold cellarerref19_Ends endsW
  by_cases h : e.length ≤ s.length
  · rw [decide_eq_true (show ((e.length : Nat) : Int) ≤ (s.length : Int) by omega), w64 (n := (s.length : Int) - (e.length : Int)) (by omega) (by omega)]
    simp only [cond_true]
    rw [if_pos (by omega), show ((s.length : Int) - (e.length : Int)).toNat = s.length - e.length by omega, Int.toNat_natCast, List.take_length, decide_eq_true h]
    rfl
  · rw [decide_eq_false (show ¬ ((e.length : Nat) : Int) ≤ (s.length : Int) by omega), decide_eq_false h]
    rfl

def dirD : List UInt8 := [47, 118, 97, 114, 47, 108, 105, 98, 47, 100, 112, 107, 103]
def dirA : List UInt8 := [47, 101, 116, 99, 47, 97, 108, 116, 101, 114, 110, 97, 116, 105, 118, 101, 115]
def eNew : List UInt8 := [46, 100, 112, 107, 103, 45, 110, 101, 119]
def eTmp : List UInt8 := [46, 100, 112, 107, 103, 45, 116, 109, 112]
def eDist : List UInt8 := [46, 100, 112, 107, 103, 45, 100, 105, 115, 116]

def reservedV (p : List UInt8) : Bool := decide (p = dirD) || decide (p = dirA) || underV dirD p || underV dirA p || endsW p eNew || endsW p eTmp || endsW p eDist

theorem reserved_eq (p : List UInt8) (hp : p.length < 1000000) : pack_Reserved p = some (reservedV p) := by
  unfold pack_Reserved
  have e1 : pack_Reserved_b0 p (2 : Int) [dirD, dirA] (0 : Int) = some (if (decide (p = dirD) || underV dirD p) = true then .inr (.inl ()) else .inl (1 : Int)) := by
    unfold pack_Reserved_b0
    simp only [show decide ((0 : Int) < 2) = true from rfl, cond_true]
    rw [if_pos (by simp), if_pos (by simp)]
    simp only [show [dirD, dirA].getD (0 + (0 : Int).toNat) [] = dirD from rfl, under_eq dirD p (by decide)]
    by_cases h : p = dirD
    · simp [h]
    · simp only [h, decide_false, cond_false, Option.bind_some, Bool.false_or]
      cases underV dirD p <;> rfl
  have e2 : pack_Reserved_b0 p (2 : Int) [dirD, dirA] (1 : Int) = some (if (decide (p = dirA) || underV dirA p) = true then .inr (.inl ()) else .inl (2 : Int)) := by
    unfold pack_Reserved_b0
    simp only [show decide ((1 : Int) < 2) = true from rfl, cond_true]
    rw [if_pos (by simp), if_pos (by simp)]
    simp only [show [dirD, dirA].getD (0 + (1 : Int).toNat) [] = dirA from rfl, under_eq dirA p (by decide)]
    by_cases h : p = dirA
    · simp [h]
    · simp only [h, decide_false, cond_false, Option.bind_some, Bool.false_or]
      cases underV dirA p <;> rfl
  have e3 : pack_Reserved_b0 p (2 : Int) [dirD, dirA] (2 : Int) = some (.inr (.inr ())) := rfl
  have hl : iter (pack_Reserved_b0 p (2 : Int) [dirD, dirA]) (0 : Int) = some (if ((decide (p = dirD) || underV dirD p) || (decide (p = dirA) || underV dirA p)) = true then .inl () else .inr ()) := by
    by_cases h1 : (decide (p = dirD) || underV dirD p) = true
    · rw [if_pos h1] at e1
      rw [iter_inr e1, h1]; rfl
    · rw [if_neg h1] at e1
      rw [iter_inl e1]
      by_cases h2 : (decide (p = dirA) || underV dirA p) = true
      · rw [if_pos h2] at e2
        rw [iter_inr e2, h2, Bool.or_true]; rfl
      · rw [if_neg h2] at e2
        rw [iter_inl e2, iter_inr e3, Bool.eq_false_iff.mpr h1, Bool.eq_false_iff.mpr h2]; rfl
  have hl' : ∀ (t : Int) (o : List (List UInt8)), t = 2 → o = [dirD, dirA] → iter (pack_Reserved_b0 p t o) (0 : Int) = some (if ((decide (p = dirD) || underV dirD p) || (decide (p = dirA) || underV dirA p)) = true then .inl () else .inr ()) := by
    intro t o h1 h2; subst h1; subst h2; exact hl
  rw [hl' _ _ (by rfl) (by rfl)]
  rw [ends_eq p _ (by omega) (by decide), ends_eq p _ (by omega) (by decide), ends_eq p _ (by omega) (by decide)]
  unfold reservedV
  change _ = some (decide (p = dirD) || decide (p = dirA) || underV dirD p || underV dirA p || endsW p [46, 100, 112, 107, 103, 45, 110, 101, 119] || endsW p [46, 100, 112, 107, 103, 45, 116, 109, 112] || endsW p [46, 100, 112, 107, 103, 45, 100, 105, 115, 116])
  cases decide (p = dirD) <;> cases decide (p = dirA) <;> cases underV dirD p <;> cases underV dirA p <;> cases endsW p [46, 100, 112, 107, 103, 45, 110, 101, 119] <;> cases endsW p [46, 100, 112, 107, 103, 45, 116, 109, 112] <;> cases endsW p [46, 100, 112, 107, 103, 45, 100, 105, 115, 116] <;> rfl

theorem refReserved_eq (p : List UInt8) (hp : p.length < 1000000) : cellarerref19_Reserved p = some (reservedV p) := by
  unfold cellarerref19_Reserved
  rw [refEnds_eq p _ (by omega) (by decide), refEnds_eq p _ (by omega) (by decide), refEnds_eq p _ (by omega) (by decide), refUnder_eq _ p (by decide), refUnder_eq _ p (by decide)]
  change (bif decide (p = dirD) then _ else bif decide (p = dirA) then _ else (some (underV dirD p)).bind fun a => bif a then some true else (some (underV dirA p)).bind fun a => bif a then some true else (some (endsW p eNew)).bind fun a => bif a then some true else (some (endsW p eTmp)).bind fun a => bif a then some true else (some (endsW p eDist)).bind fun a => some a) = _
  unfold reservedV
  cases decide (p = dirD) <;> cases decide (p = dirA) <;> cases underV dirD p <;> cases underV dirA p <;> cases endsW p eNew <;> cases endsW p eTmp <;> cases endsW p eDist <;> rfl

def placeV (p : List UInt8) : Bool := rightV p && !decide (p = [47]) && !reservedV p

theorem place_eq (p : List UInt8) (hp : p.length < 1000000) : pack_place p = some (placeV p) := by
  unfold pack_place placeV
  rw [right_eq p hp, reserved_eq p hp]
  cases rightV p
  · rfl
  · by_cases h : p = [47] <;> simp [h]

theorem refPlace_eq (p : List UInt8) (hp : p.length < 1000000) : cellarerref19_Place p = some (placeV p) := by
  unfold cellarerref19_Place placeV
  rw [refRight_eq p hp, refReserved_eq p hp]
  cases rightV p
  · rfl
  · by_cases h : p = [47] <;> simp [h]

/-! ### a path in its one form, and an end put behind it -/

def good (x : List UInt8) : Prop := x ≠ [] ∧ 47 ∉ x ∧ x ≠ [46] ∧ x ≠ [46, 46]

theorem pieces_mem : ∀ (s acc : List UInt8), 47 ∉ acc → ∀ x ∈ pieces s acc, 47 ∉ x := by
  intro s
  induction s with
  | nil => intro acc h x hx; simp [pieces] at hx; rw [hx]; exact h
  | cons c r ih =>
    intro acc h x hx
    unfold pieces at hx
    by_cases hc : c = 47
    · rw [if_pos hc] at hx
      rcases List.mem_cons.mp hx with rfl | hx
      · exact h
      · exact ih [] (by simp) x hx
    · rw [if_neg hc] at hx
      exact ih (acc ++ [c]) (by simp [h, Ne.symm hc]) x hx

theorem fold_good : ∀ (l left : List (List UInt8)), (∀ x ∈ l, x ≠ [] ∧ 47 ∉ x) → (∀ x ∈ left, good x) → ∀ x ∈ l.foldl cstep left, good x := by
  intro l
  induction l with
  | nil => intro left _ h; exact h
  | cons y l ih =>
    intro left hl h
    simp only [List.foldl_cons]
    refine ih _ (fun x hx => hl x (by simp [hx])) ?_
    intro x hx
    unfold cstep at hx
    have hy := hl y (by simp)
    by_cases h1 : y = [46]
    · rw [if_pos h1] at hx; exact h x hx
    · rw [if_neg h1] at hx
      by_cases h2 : y = [46, 46]
      · rw [if_pos h2] at hx; exact h x (List.dropLast_subset _ hx)
      · rw [if_neg h2] at hx
        rcases List.mem_append.mp hx with hx | hx
        · exact h x hx
        · simp at hx; rw [hx]; exact ⟨hy.1, hy.2, h1, h2⟩

theorem left_good (s : List UInt8) : ∀ x ∈ leftV (partsV s), good x := by
  unfold leftV
  refine fold_good _ [] (fun x hx => ?_) (by simp)
  unfold partsV at hx
  rw [List.mem_filter] at hx
  refine ⟨?_, pieces_mem s [] (by simp) x hx.1⟩
  have := hx.2
  unfold full at this
  simpa using this

theorem pieces_word : ∀ (x t acc : List UInt8), 47 ∉ x → pieces (x ++ t) acc = pieces t (acc ++ x) := by
  intro x
  induction x with
  | nil => intro t acc _; simp
  | cons c x ih =>
    intro t acc h
    simp only [List.mem_cons, not_or] at h
    rw [List.cons_append]
    conv => lhs; unfold pieces
    rw [if_neg (Ne.symm h.1), ih t (acc ++ [c]) h.2]
    simp

theorem pieces_flat : ∀ (M : List (List UInt8)) (acc : List UInt8), (∀ x ∈ M, 47 ∉ x) → pieces (M.flatMap fun x => 47 :: x) acc = acc :: M := by
  intro M
  induction M with
  | nil => intro acc _; rfl
  | cons x M ih =>
    intro acc h
    rw [List.flatMap_cons, List.cons_append]
    conv => lhs; unfold pieces
    rw [if_pos rfl, pieces_word _ _ _ (h x (by simp)), List.nil_append, ih x (fun y hy => h y (by simp [hy]))]

theorem parts_joined (M : List (List UInt8)) (hM : M ≠ []) (h : ∀ x ∈ M, good x) : partsV (joinedV M) = M := by
  unfold joinedV partsV
  rw [if_neg hM, pieces_flat M [] (fun x hx => (h x hx).2.1)]
  have : full ([] : List UInt8) = false := rfl
  rw [List.filter_cons_of_neg (by simp [this])]
  rw [List.filter_eq_self]
  intro x hx
  have := (h x hx).1
  simp [full, this]

theorem fold_id : ∀ (M left : List (List UInt8)), (∀ x ∈ M, good x) → M.foldl cstep left = left ++ M := by
  intro M
  induction M with
  | nil => intro left _; simp
  | cons x M ih =>
    intro left h
    have hx := h x (by simp)
    rw [List.foldl_cons, ih _ (fun y hy => h y (by simp [hy]))]
    unfold cstep
    rw [if_neg hx.2.2.1, if_neg hx.2.2.2]
    simp

theorem left_joined (M : List (List UInt8)) (hM : M ≠ []) (h : ∀ x ∈ M, good x) : joinedV (leftV (partsV (joinedV M))) = joinedV M := by
  rw [parts_joined M hM h]
  unfold leftV
  rw [fold_id M [] h]
  rfl

theorem flat_snoc (M : List (List UInt8)) (x e : List UInt8) : joinedV (M ++ [x ++ e]) = joinedV (M ++ [x]) ++ e := by
  unfold joinedV
  rw [if_neg (by simp), if_neg (by simp)]
  simp

theorem right_tmp (p : List UInt8) (hr : rightV p = true) (h1 : p ≠ [47]) : rightV (p ++ eTmp) = decide (p.length ≤ 191) := by
  unfold rightV cleanV at hr
  by_cases hp : plainV p = true
  · rw [if_pos hp] at hr
    by_cases hl : 200 < (joinedV (leftV (partsV p))).length
    · rw [if_pos hl] at hr; simp at hr
    · rw [if_neg hl] at hr
      simp at hr
      have hg := left_good p
      generalize hL : leftV (partsV p) = L at hr hg
      have hL0 : L ≠ [] := fun e => h1 (by rw [← hr, e]; rfl)
      have hs : L = L.dropLast ++ [L.getLast hL0] := (List.dropLast_concat_getLast hL0).symm
      have hM : p ++ eTmp = joinedV (L.dropLast ++ [L.getLast hL0 ++ eTmp]) := by
        rw [flat_snoc, ← hs, hr]
      have hgM : ∀ x ∈ L.dropLast ++ [L.getLast hL0 ++ eTmp], good x := by
        intro x hx
        rcases List.mem_append.mp hx with hx | hx
        · exact hg x (List.dropLast_subset _ hx)
        · simp only [List.mem_singleton] at hx
          subst hx
          have hq := hg _ (List.getLast_mem hL0)
          refine ⟨by simp [eTmp], ?_, ?_, ?_⟩
          · rw [List.mem_append]
            rintro (h | h)
            · exact hq.2.1 h
            · revert h; decide
          · intro e; have := congrArg List.length e; simp [eTmp] at this
          · intro e; have := congrArg List.length e; simp [eTmp] at this
      have hplain : plainV (p ++ eTmp) = true := by
        unfold plainV at hp ⊢
        simp only [Bool.and_eq_true, decide_eq_true_eq] at hp ⊢
        refine ⟨?_, ?_⟩
        · rw [List.all_append, hp.1]; decide
        · cases p with
          | nil => simp at hp
          | cons c p => simpa using hp.2
      unfold rightV cleanV
      rw [if_pos hplain, hM, left_joined _ (by simp) hgM, ← hM]
      by_cases h9 : p.length ≤ 191
      · rw [if_neg (by simp [eTmp]; omega), decide_eq_true h9]; simp
      · rw [if_pos (by simp [eTmp]; omega), decide_eq_false h9]; simp
  · rw [if_neg hp] at hr
    simp at hr

def linkV (p : List UInt8) : Bool := placeV p && decide (p.length ≤ 191)

theorem link_eq (p : List UInt8) (hp : p.length < 100000) : pack_link p = some (linkV p) := by
  unfold pack_link linkV
  rw [place_eq p (by omega)]
  cases h : placeV p with
  | false => rfl
  | true =>
    simp only [Option.bind_some, cond_true]
    rw [if_pos (by simp; omega)]
    have h' := h
    unfold placeV at h'
    simp only [Bool.and_eq_true, Bool.not_eq_true', decide_eq_false_iff_not] at h'
    rw [right_eq _ (by simp; omega)]
    simp only [Option.bind_some, Bool.true_and]
    exact congrArg some (right_tmp p h'.1.1 h'.1.2)

theorem refLink_eq (p : List UInt8) (hp : p.length < 100000) : cellarerref19_Link p = some (linkV p) := by
  unfold cellarerref19_Link linkV
  rw [refPlace_eq p (by omega)]
  cases h : placeV p with
  | false => rfl
  | true =>
    simp only [Option.bind_some, cond_true, Bool.true_and]
    congr 1
    by_cases h9 : p.length ≤ 191
    · rw [decide_eq_true h9, decide_eq_true (by omega)]
    · rw [decide_eq_false h9, decide_eq_false (by omega)]

/-! ### names -/

theorem allFrom_mem {α : Type} (p : Nat → α → Bool) (q : α → Prop) (h : ∀ k c, p k c = true → q c) : ∀ (r : List α) (k : Nat), allFrom p k r = true → ∀ c ∈ r, q c := by
  intro r
  induction r with
  | nil => intro k _ c hc; cases hc
  | cons x r ih =>
    intro k hk c hc
    simp only [allFrom, Bool.and_eq_true] at hk
    rcases List.mem_cons.mp hc with rfl | hc
    · exact h k _ hk.1
    · exact ih (k + 1) hk.2 c hc

theorem name_no47 {s : List UInt8} (h : nameV s = true) : (47 : UInt8) ∉ s := by
  unfold nameV at h
  simp only [Bool.and_eq_true] at h
  have := allFrom_mem nameAt (fun c => c ≠ 47) (fun k c hc e => by
    subst e
    unfold nameAt at hc
    have h1 : isWord 47 = false := by decide
    have h2 : isMark 47 = false := by decide
    simp [h1, h2] at hc) s 0 h.2
  intro hm
  exact this 47 hm rfl

theorem ends_slash (s e : List UInt8) (he : e.head? ≠ some 47) : endsW ([47] ++ s) e = endsW s e := by
  unfold endsW
  by_cases h : e.length ≤ s.length
  · rw [decide_eq_true h, decide_eq_true (by simp; omega)]
    have h3 : (47 :: s).length - e.length = (s.length - e.length) + 1 := by simp; omega
    rw [List.singleton_append, h3, List.drop_succ_cons]
  · rw [decide_eq_false h]
    by_cases h2 : e.length ≤ ([47] ++ s).length
    · have h3 : ([47] ++ s).length - e.length = 0 := by simp at h2 ⊢; omega
      rw [h3, List.drop_zero, decide_eq_false (show ¬ [47] ++ s = e from fun hh => he (by rw [← hh]; rfl))]
      simp
    · rw [decide_eq_false h2]; rfl

theorem under_slash (s d : List UInt8) (h : (47 : UInt8) ∉ s) (hd : (47 : UInt8) ∈ d.drop 1) : underV d ([47] ++ s) = false := by
  unfold underV
  have : ¬ ([47] ++ s).take (joinP d []).length = joinP d [] := by
    intro e
    have h2 : (47 : UInt8) ∈ (joinP d []).drop 1 := by
      unfold joinP
      split
      · simpa using hd
      · rw [List.append_nil, List.drop_append]
        exact List.mem_append_left _ hd
    rw [← e] at h2
    apply h
    cases hj : (joinP d []).length with
    | zero => rw [hj] at h2; simp at h2
    | succ n =>
      rw [hj] at h2
      simp only [List.singleton_append, List.take_succ_cons, List.drop_succ_cons, List.drop_zero] at h2
      exact List.mem_of_mem_take h2
  rw [decide_eq_false this]; rfl

theorem reserved_slash {s : List UInt8} (h : (47 : UInt8) ∉ s) : reservedV ([47] ++ s) = (endsW s eNew || endsW s eTmp || endsW s eDist) := by
  unfold reservedV
  rw [ends_slash _ _ (by decide), ends_slash _ _ (by decide), ends_slash _ _ (by decide), under_slash _ _ h (by decide), under_slash _ _ h (by decide)]
  have h1 : ¬ [47] ++ s = dirD := by
    intro e; apply h
    have : s = dirD.drop 1 := by rw [← e]; rfl
    rw [this]; decide
  have h2 : ¬ [47] ++ s = dirA := by
    intro e; apply h
    have : s = dirA.drop 1 := by rw [← e]; rfl
    rw [this]; decide
  rw [decide_eq_false h1, decide_eq_false h2]
  simp

def nameF (s : List UInt8) : Bool := nameV s && !(endsW s eNew || endsW s eTmp || endsW s eDist)

theorem packName_eq (s : List UInt8) (hs : s.length < 100000) : pack_name s = some (nameF s) := by
  unfold pack_name nameF
  rw [name_eq s]
  cases h : nameV s with
  | false => rfl
  | true =>
    simp only [Option.bind_some, cond_true]
    rw [if_pos (by simp; omega), reserved_eq _ (by simp; omega), reserved_slash (name_no47 h)]
    rfl

theorem refPackName_eq (s : List UInt8) (hs : s.length < 100000) : cellarerref19_Name s = some (nameF s) := by
  unfold cellarerref19_Name nameF
  rw [refName_eq s (by omega), refEnds_eq s _ (by omega) (by decide), refEnds_eq s _ (by omega) (by decide), refEnds_eq s _ (by omega) (by decide)]
  change ((some (nameV s)).bind fun a => bif a then (some (endsW s eTmp)).bind fun a => bif !a then (some (endsW s eNew)).bind fun a => bif !a then (some (endsW s eDist)).bind fun a => some (!a) else some false else some false else some false) = _
  cases nameV s <;> cases endsW s eTmp <;> cases endsW s eNew <;> cases endsW s eDist <;> rfl

end Go.Cellar
