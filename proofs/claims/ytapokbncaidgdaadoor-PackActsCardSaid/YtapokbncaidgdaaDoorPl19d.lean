/- PackReserved and PackActs. No condition. -/
import Derived.Test.YtapokbncaidgdaaDoorPl19c
set_option linter.unusedSimpArgs false
set_option linter.unusedVariables false
set_option maxRecDepth 8000
namespace Go.Cellar
open Go

theorem awake19 : cellarerlaw19_awake = some true := by kernel_rfl

theorem PackReserved_true (p : List UInt8) : cellarerlaw19_PackReserved p = some true := by
  unfold cellarerlaw19_PackReserved
  rw [awake19]
  by_cases h : 1000 < p.length
  · rw [decide_eq_true (show (1000 : Int) < (p.length : Int) by omega)]; rfl
  · rw [decide_eq_false (show ¬ (1000 : Int) < (p.length : Int) by omega), reserved_eq p (by omega), refReserved_eq p (by omega)]
    simp

/-! ### few -/

abbrev En : Type := List UInt8 × List UInt8 × Bool × List UInt8 × List (List UInt8 × List UInt8) × List (List UInt8 × Int × List (List UInt8))

theorem few_b0 (l : List (List UInt8 × List UInt8)) (hl : l.length ≤ 70) : iter (cellarerlaw11_Few_b0 l) (0 : Int) = some (if l.all (fun x => decide (x.1.length ≤ 300) && decide (x.2.length ≤ 300)) = true then .inr () else .inl ()) := by
  have := all_loop (cellarerlaw11_Few_b0 l) (fun _ x => decide (x.1.length ≤ 300) && decide (x.2.length ≤ 300)) l (fun k hk => by
    unfold cellarerlaw11_Few_b0
    simp [show ¬ k < l.length by omega]) (fun k x r h => by
    obtain ⟨g1, g2, g3⟩ := drop_cons h ([], [])
    unfold cellarerlaw11_Few_b0
    simp only [natlt, g1, decide_true, cond_true, Int.natCast_nonneg, true_and, if_true, Int.toNat_natCast, g2, kplus g1 (by omega)]
    by_cases h1 : 300 < x.1.length
    · rw [decide_eq_true (show (300 : Int) < (x.1.length : Int) by omega), decide_eq_false (show ¬ x.1.length ≤ 300 by omega)]; rfl
    · rw [decide_eq_false (show ¬ (300 : Int) < (x.1.length : Int) by omega), decide_eq_true (show x.1.length ≤ 300 by omega)]
      by_cases h2 : 300 < x.2.length
      · rw [decide_eq_true (show (300 : Int) < (x.2.length : Int) by omega), decide_eq_false (show ¬ x.2.length ≤ 300 by omega)]; rfl
      · rw [decide_eq_false (show ¬ (300 : Int) < (x.2.length : Int) by omega), decide_eq_true (show x.2.length ≤ 300 by omega)]; rfl) l 0 rfl
  rw [allFrom_const] at this
  exact this

theorem few_b1 (o : List (List UInt8 × Int × List (List UInt8))) (k : Nat) (hk : k < o.length) (W : List (List UInt8)) (hW : (o.getD k ([], (0 : Int), [])).2.2 = W) (hlen : W.length ≤ 70) :
    ∀ (r : List (List UInt8)) (j n : Nat), W.drop j = r → n ≤ 3000 → ∃ x, iter (cellarerlaw11_Few_b1 (k : Int) o) ((n : Int), (j : Int)) = some x ∧ ∀ v, x = .inr v → (∃ m : Nat, v = (m : Int) ∧ m ≤ 3000) ∧ ∀ y ∈ r, y.length ≤ 3000 := by
  intro r
  induction r with
  | nil =>
    intro j n h hn
    have hj := drop_nil h
    refine ⟨.inr (n : Int), iter_inr ?_, fun v hv => ⟨⟨n, by cases hv; rfl, hn⟩, by simp⟩⟩
    unfold cellarerlaw11_Few_b1
    rw [if_pos (by omega)]
    simp only [Int.toNat_natCast, hW]
    rw [decide_eq_false (by omega)]
    rfl
  | cons y r ih =>
    intro j n h hn
    obtain ⟨g1, g2, g3⟩ := drop_cons h []
    have hm : (if (3000 : Int) < (y.length : Int) then (3000 : Int) else (y.length : Int)) = ((min y.length 3000 : Nat) : Int) := by
      by_cases h : 3000 < y.length
      · rw [if_pos (by omega)]; omega
      · rw [if_neg (by omega)]; omega
    have hb : cellarerlaw11_Few_b1 (k : Int) o ((n : Int), (j : Int)) = some (if 3000 < n + (1 + min y.length 3000) then .inr (.inl ()) else .inl (((n + (1 + min y.length 3000) : Nat) : Int), ((j + 1 : Nat) : Int))) := by
      unfold cellarerlaw11_Few_b1
      rw [if_pos (by omega), if_pos (by omega)]
      simp only [Int.toNat_natCast, hW]
      rw [decide_eq_true (by omega), if_pos (by omega), g2, hm, w64 (n := (1 : Int) + ((min y.length 3000 : Nat) : Int)) (by omega) (by omega), w64 (n := (n : Int) + ((1 : Int) + ((min y.length 3000 : Nat) : Int))) (by omega) (by omega), kplus g1 (by omega)]
      by_cases hq : 3000 < n + (1 + min y.length 3000)
      · rw [decide_eq_true (by omega), if_pos hq]; rfl
      · rw [decide_eq_false (by omega), if_neg hq]
        simp only [cond_true, cond_false]
        congr 3
    by_cases hq : 3000 < n + (1 + min y.length 3000)
    · rw [if_pos hq] at hb
      exact ⟨.inl (), iter_inr hb, fun v hv => by cases hv⟩
    · rw [if_neg hq] at hb
      obtain ⟨x, h1, h2⟩ := ih (j + 1) (n + (1 + min y.length 3000)) g3 (by omega)
      refine ⟨x, by rw [iter_inl hb]; exact h1, fun v hv => ?_⟩
      obtain ⟨q1, q2⟩ := h2 v hv
      refine ⟨q1, fun z hz => ?_⟩
      rcases List.mem_cons.mp hz with rfl | hz
      · omega
      · exact q2 z hz

theorem few_b2 (W : List (List UInt8)) : ∃ x, iter (cellarerlaw11_Few_b2 [([], (0 : Int), W)]) ((0 : Int), (0 : Int)) = some x ∧ ∀ v, x = .inr v → (∃ m : Nat, v = (m : Int) ∧ m ≤ 3000) ∧ W.length ≤ 70 ∧ ∀ y ∈ W, y.length ≤ 3000 := by
  by_cases h70 : 70 < W.length
  · refine ⟨.inl (), iter_inr ?_, fun v hv => by cases hv⟩
    unfold cellarerlaw11_Few_b2
    simp [show (70 : Int) < (W.length : Int) by omega]
  · obtain ⟨x, h1, h2⟩ := few_b1 [([], (0 : Int), W)] 0 (by simp) W rfl (by omega) W 0 0 rfl (by omega)
    have h1' : iter (cellarerlaw11_Few_b1 (0 : Int) [([], (0 : Int), W)]) ((0 : Int), (0 : Int)) = some x := h1
    cases x with
    | inl u =>
      refine ⟨.inl (), iter_inr ?_, fun v hv => by cases hv⟩
      unfold cellarerlaw11_Few_b2
      simp [show ¬ (70 : Int) < (W.length : Int) by omega, h1']
    | inr v =>
      obtain ⟨⟨m, rfl, hm⟩, hy⟩ := h2 v rfl
      refine ⟨.inr (m : Int), ?_, fun v hv => ⟨⟨m, by cases hv; rfl, hm⟩, by omega, hy⟩⟩
      rw [iter_inl (s' := ((m : Int), (1 : Int)))]
      · exact iter_inr (by unfold cellarerlaw11_Few_b2; rfl)
      · unfold cellarerlaw11_Few_b2
        simp [show ¬ (70 : Int) < (W.length : Int) by omega, h1']
        rfl

theorem few11 (a b c : List UInt8) (P : List (List UInt8 × List UInt8)) (W : List (List UInt8)) :
    ∃ v, cellarerlaw11_Few [(a, b, false, c, P, [([], (0 : Int), W)])] = some v ∧ (v = true → a.length ≤ 300 ∧ b.length ≤ 300 ∧ c.length ≤ 300 ∧ P.length ≤ 70 ∧ (∀ x ∈ P, x.1.length ≤ 300 ∧ x.2.length ≤ 300) ∧ W.length ≤ 70 ∧ ∀ y ∈ W, y.length ≤ 3000) := by
  have hB : ∃ x, iter (cellarerlaw11_Few_b3 [(a, b, false, c, P, [([], (0 : Int), W)])]) ((0 : Int), (0 : Int)) = some x ∧ (x = .inr () → a.length ≤ 300 ∧ b.length ≤ 300 ∧ c.length ≤ 300 ∧ P.length ≤ 70 ∧ (∀ x ∈ P, x.1.length ≤ 300 ∧ x.2.length ≤ 300) ∧ W.length ≤ 70 ∧ ∀ y ∈ W, y.length ≤ 3000) := by
    by_cases h1 : 300 < a.length
    · refine ⟨.inl (), iter_inr ?_, fun h => by cases h⟩
      unfold cellarerlaw11_Few_b3
      simp [show (300 : Int) < (a.length : Int) by omega]
    by_cases h2 : 300 < b.length
    · refine ⟨.inl (), iter_inr ?_, fun h => by cases h⟩
      unfold cellarerlaw11_Few_b3
      simp [show ¬ (300 : Int) < (a.length : Int) by omega, show (300 : Int) < (b.length : Int) by omega]
    by_cases h3 : 300 < c.length
    · refine ⟨.inl (), iter_inr ?_, fun h => by cases h⟩
      unfold cellarerlaw11_Few_b3
      simp [show ¬ (300 : Int) < (a.length : Int) by omega, show ¬ (300 : Int) < (b.length : Int) by omega, show (300 : Int) < (c.length : Int) by omega]
    by_cases h4 : 70 < P.length
    · refine ⟨.inl (), iter_inr ?_, fun h => by cases h⟩
      unfold cellarerlaw11_Few_b3
      simp [show ¬ (300 : Int) < (a.length : Int) by omega, show ¬ (300 : Int) < (b.length : Int) by omega, show ¬ (300 : Int) < (c.length : Int) by omega, show (70 : Int) < (P.length : Int) by omega]
    have hb0 := few_b0 P (by omega)
    by_cases h5 : P.all (fun x => decide (x.1.length ≤ 300) && decide (x.2.length ≤ 300)) = true
    · rw [if_pos h5] at hb0
      obtain ⟨x, i1, i2⟩ := few_b2 W
      cases x with
      | inl u =>
        refine ⟨.inl (), iter_inr ?_, fun h => by cases h⟩
        unfold cellarerlaw11_Few_b3
        simp [show ¬ (300 : Int) < (a.length : Int) by omega, show ¬ (300 : Int) < (b.length : Int) by omega, show ¬ (300 : Int) < (c.length : Int) by omega, show ¬ (70 : Int) < (P.length : Int) by omega, hb0, i1]
      | inr v =>
        obtain ⟨⟨m, rfl, hm⟩, hw, hy⟩ := i2 v rfl
        by_cases hq : 3000 < m + (P.length + 1)
        · refine ⟨.inl (), iter_inr ?_, fun h => by cases h⟩
          unfold cellarerlaw11_Few_b3
          simp [show ¬ (300 : Int) < (a.length : Int) by omega, show ¬ (300 : Int) < (b.length : Int) by omega, show ¬ (300 : Int) < (c.length : Int) by omega, show ¬ (70 : Int) < (P.length : Int) by omega, hb0, i1]
          rw [w64 (n := (P.length : Int) + 1) (by omega) (by omega), w64 (by omega) (by omega), decide_eq_true (by omega)]
          rfl
        · refine ⟨.inr (), ?_, fun _ => ⟨by omega, by omega, by omega, by omega, fun x hx => ?_, hw, hy⟩⟩
          · rw [iter_inl (s' := (((m + (P.length + 1) : Nat) : Int), (1 : Int)))]
            · exact iter_inr (by unfold cellarerlaw11_Few_b3; rfl)
            · unfold cellarerlaw11_Few_b3
              simp [show ¬ (300 : Int) < (a.length : Int) by omega, show ¬ (300 : Int) < (b.length : Int) by omega, show ¬ (300 : Int) < (c.length : Int) by omega, show ¬ (70 : Int) < (P.length : Int) by omega, hb0, i1]
              rw [w64 (n := (P.length : Int) + 1) (by omega) (by omega), w64 (n := (m : Int) + ((P.length : Int) + 1)) (by omega) (by omega), decide_eq_false (by omega)]
              rfl
          · have := List.all_eq_true.mp h5 x hx
            simpa using this
    · rw [if_neg h5] at hb0
      refine ⟨.inl (), iter_inr ?_, fun h => by cases h⟩
      unfold cellarerlaw11_Few_b3
      simp [show ¬ (300 : Int) < (a.length : Int) by omega, show ¬ (300 : Int) < (b.length : Int) by omega, show ¬ (300 : Int) < (c.length : Int) by omega, show ¬ (70 : Int) < (P.length : Int) by omega, hb0]
  obtain ⟨x, i1, i2⟩ := hB
  unfold cellarerlaw11_Few
  simp only [show decide ((70 : Int) < (([(a, b, false, c, P, [([], (0 : Int), W)])] : List En).length : Int)) = false from rfl, cond_false, i1, Option.bind_some]
  cases x with
  | inl u => exact ⟨false, rfl, fun h => by cases h⟩
  | inr u => exact ⟨true, rfl, fun _ => i2 rfl⟩

/-! ### slaves, and one act -/

def slavesV (P : List (List UInt8 × List UInt8)) (W : List (List UInt8)) : Bool := allFrom (fun k c => nameF c.1 && linkV c.2 && (decide (W.getD k [] = []) || placeV (W.getD k []))) 0 P

theorem getD_len (W : List (List UInt8)) (h : ∀ y ∈ W, y.length ≤ 3000) (k : Nat) : (W.getD k []).length ≤ 3000 := by
  rw [List.getD_eq_getElem?_getD]
  by_cases hk : k < W.length
  · rw [List.getElem?_eq_getElem hk]; exact h _ (List.getElem_mem hk)
  · rw [List.getElem?_eq_none (by omega)]; simp

theorem slaves_loop (P : List (List UInt8 × List UInt8)) (W : List (List UInt8)) (hl : W.length = P.length) (h8 : P.length ≤ 8)
    (hP : ∀ x ∈ P, x.1.length ≤ 300 ∧ x.2.length ≤ 300) (hW : ∀ y ∈ W, y.length ≤ 3000) :
    iter (pack_slaves_b0 P ((P.length : Nat) : Int) W) (0 : Int) = some (if slavesV P W = true then .inr () else .inl ()) := by
  refine all_loop _ _ P (fun k hk => ?_) (fun k x r h => ?_) P 0 rfl
  · unfold pack_slaves_b0
    simp [show ¬ k < P.length by omega]
  · obtain ⟨g1, g2, g3⟩ := drop_cons h ([], [])
    have hx := hP x (List.mem_of_mem_drop (by rw [h]; simp))
    have hg := getD_len W hW k
    unfold pack_slaves_b0
    simp only [natlt, g1, hl, decide_true, cond_true, Int.natCast_nonneg, true_and, if_true, Int.toNat_natCast, g2, kplus g1 (by omega), packName_eq x.1 (by omega), link_eq x.2 (by omega), place_eq (W.getD k []) (by omega), Option.bind_some]
    cases nameF x.1
    · rfl
    · cases linkV x.2
      · rfl
      · by_cases he : W.getD k [] = []
        · rw [decide_eq_true he]; rfl
        · rw [decide_eq_false he]
          cases placeV (W.getD k []) <;> rfl

theorem refSlaves_loop (P : List (List UInt8 × List UInt8)) (W : List (List UInt8)) (hl : W.length = P.length) (h8 : P.length ≤ 8)
    (hP : ∀ x ∈ P, x.1.length ≤ 300 ∧ x.2.length ≤ 300) (hW : ∀ y ∈ W, y.length ≤ 3000) :
    iter (cellarerref19_Act_b0 P W) (0 : Int) = some (if slavesV P W = true then .inr () else .inl ()) := by
  refine all_loop _ _ P (fun k hk => ?_) (fun k x r h => ?_) P 0 rfl
  · unfold cellarerref19_Act_b0
    simp [show ¬ k < P.length by omega]
  · obtain ⟨g1, g2, g3⟩ := drop_cons h ([], [])
    have hx := hP x (List.mem_of_mem_drop (by rw [h]; simp))
    have hg := getD_len W hW k
    unfold cellarerref19_Act_b0
    simp only [natlt, g1, hl, decide_true, cond_true, Int.natCast_nonneg, true_and, if_true, Int.toNat_natCast, g2, kplus g1 (by omega), refPackName_eq x.1 (by omega), refLink_eq x.2 (by omega), refPlace_eq (W.getD k []) (by omega), Option.bind_some]
    cases nameF x.1
    · rfl
    · cases linkV x.2
      · rfl
      · by_cases he : W.getD k [] = []
        · rw [decide_eq_true he]; rfl
        · rw [decide_eq_false he]
          cases placeV (W.getD k []) <;> rfl

def allV (P : List (List UInt8 × List UInt8)) (W : List (List UInt8)) : Bool := decide (P.length = W.length) && (decide (P.length ≤ 8) && slavesV P W)

theorem slaves_eq (k : Int) (n p t : List UInt8) (m1 m2 m3 i : Int) (b1 b2 : Bool) (P : List (List UInt8 × List UInt8)) (W : List (List UInt8))
    (hP : ∀ x ∈ P, x.1.length ≤ 300 ∧ x.2.length ≤ 300) (hW : ∀ y ∈ W, y.length ≤ 3000) :
    pack_slaves k n p t m1 m2 m3 i b1 b2 P W = some (allV P W) := by
  unfold pack_slaves allV
  by_cases hl : P.length = W.length
  · rw [decide_eq_true (show (P.length : Int) = (W.length : Int) by omega), decide_eq_true hl]
    by_cases h8 : P.length ≤ 8
    · rw [decide_eq_false (show ¬ (8 : Int) < (P.length : Int) by omega), decide_eq_true h8]
      simp only [Bool.not_true, cond_false, Option.bind_some, Sum.elim_inr, slaves_loop P W hl.symm h8 hP hW, Bool.true_and]
      cases slavesV P W <;> rfl
    · rw [decide_eq_true (show (8 : Int) < (P.length : Int) by omega), decide_eq_false h8]
      rfl
  · rw [decide_eq_false (show ¬ (P.length : Int) = (W.length : Int) by omega), decide_eq_false hl]
    rfl

def byV (s : List UInt8) : Bool := decide (s = []) || nameV s

theorem by_eq (s : List UInt8) : pack_by s = some (byV s) := by
  unfold pack_by byV
  rw [name_eq]
  by_cases h : s = [] <;> simp [h]

def trigV (s : List UInt8) : Bool := nameV s || rightV s

theorem trig_eq (s : List UInt8) (hs : s.length < 1000000) : status_Trigger s = some (trigV s) := by
  unfold status_Trigger trigV
  rw [name_eq, right_eq s hs]
  cases nameV s <;> rfl

theorem refTrig_eq (s : List UInt8) (hs : s.length < 1000000) : cellarerref08_Trigger s = some (trigV s) := by
  unfold cellarerref08_Trigger trigV
  rw [refName_eq s (by omega), refRight_eq s hs]
  cases nameV s <;> rfl

theorem bits_eq (a b c : Int) : ∃ v, bits_Right a b c = some v ∧ cellarerref01_Right a b c = some v := by
  unfold bits_Right cellarerref01_Right
  cases decide ((0 : Int) ≤ a) <;> cases decide (a ≤ (4095 : Int)) <;> cases decide ((0 : Int) ≤ b) <;> cases decide (b ≤ (67108863 : Int)) <;> cases decide ((0 : Int) ≤ c) <;> exact ⟨_, rfl, rfl⟩

def actV (k : Int) (n p t : List UInt8) (m : Bool) (i : Int) (P : List (List UInt8 × List UInt8)) (W : List (List UInt8)) : Bool :=
  bif decide (k = 1) then (decide (t = []) || placeV t) && (placeV p && byV n)
  else bif decide (k = 2) then placeV p && byV n
  else bif decide (k = 3) then m && placeV p
  else bif decide (k = 4) then placeV p
  else bif decide (k = 5) then linkV t && (!decide (i < -2147483648) && (!decide (2147483647 < i) && (allV P W && (nameF n && placeV p))))
  else bif decide (k = 6) || decide (k = 8) then nameF n && placeV p
  else bif decide (k = 7) || decide (k = 9) then nameF n
  else bif decide (k = 10) then trigV n else false

theorem act_eq (k : Int) (n p t : List UInt8) (m1 m2 m3 i : Int) (b1 b2 : Bool) (P : List (List UInt8 × List UInt8)) (W : List (List UInt8)) (v : Bool) (hv : bits_Right m1 m2 m3 = some v)
    (hn : n.length ≤ 300) (hp : p.length ≤ 300) (ht : t.length ≤ 300)
    (hP : ∀ x ∈ P, x.1.length ≤ 300 ∧ x.2.length ≤ 300) (hW : ∀ y ∈ W, y.length ≤ 3000) :
    pack_Act k n p t m1 m2 m3 i b1 b2 P W = some (actV k n p t v i P W) := by
  unfold pack_Act actV
  simp only [hv, slaves_eq k n p t m1 m2 m3 i b1 b2 P W hP hW, place_eq p (by omega), place_eq t (by omega), link_eq t (by omega), packName_eq n (by omega), trig_eq n (by omega), by_eq n]
  cases decide (k = 1)
  · cases decide (k = 2)
    · cases decide (k = 3)
      · cases decide (k = 4)
        · cases decide (k = 5)
          · cases decide (k = 6) <;> cases decide (k = 8) <;> cases decide (k = 7) <;> cases decide (k = 9) <;> cases decide (k = 10) <;> cases nameF n <;> cases placeV p <;> rfl
          · cases linkV t <;> cases decide (i < -2147483648) <;> cases decide (2147483647 < i) <;> cases allV P W <;> cases nameF n <;> rfl
        · rfl
      · cases v <;> rfl
    · cases placeV p <;> rfl
  · cases decide (t = []) <;> cases placeV t <;> cases placeV p <;> rfl

theorem refAct_eq (k : Int) (n p t : List UInt8) (m1 m2 m3 i : Int) (b1 b2 : Bool) (P : List (List UInt8 × List UInt8)) (W : List (List UInt8)) (v : Bool) (hv : cellarerref01_Right m1 m2 m3 = some v)
    (hn : n.length ≤ 300) (hp : p.length ≤ 300) (ht : t.length ≤ 300)
    (hP : ∀ x ∈ P, x.1.length ≤ 300 ∧ x.2.length ≤ 300) (hW : ∀ y ∈ W, y.length ≤ 3000) :
    cellarerref19_Act k n p t m1 m2 m3 i b1 b2 P W = some (actV k n p t v i P W) := by
  unfold cellarerref19_Act actV
  have hby : (bif Decidable.decide (n = []) then some (Bool.true) else (cellarerref02_Name n).bind fun a => some a) = some (byV n) := by
    unfold byV
    rw [refName_eq n (by omega)]
    by_cases h : n = [] <;> simp [h]
  simp only [hby, Option.bind_some, hv, refPlace_eq p (by omega), refPlace_eq t (by omega), refLink_eq t (by omega), refPackName_eq n (by omega), refTrig_eq n (by omega)]
  cases decide (k = 1)
  · cases decide (k = 2)
    · cases decide (k = 3)
      · cases decide (k = 4)
        · cases decide (k = 5)
          · cases decide (k = 6) <;> cases decide (k = 8) <;> cases decide (k = 7) <;> cases decide (k = 9) <;> cases decide (k = 10) <;> cases nameF n <;> cases placeV p <;> rfl
          · unfold allV
            by_cases hl : P.length = W.length
            · rw [decide_eq_true (show (W.length : Int) = (P.length : Int) by omega), decide_eq_true hl]
              by_cases h8 : P.length ≤ 8
              · rw [decide_eq_false (show ¬ (8 : Int) < (P.length : Int) by omega), decide_eq_true h8, slaves_loop P W hl.symm h8 hP hW |> fun _ => refSlaves_loop P W hl.symm h8 hP hW]
                cases nameF n <;> cases linkV t <;> cases placeV p <;> cases decide (i < -2147483648) <;> cases decide (2147483647 < i) <;> cases slavesV P W <;> rfl
              · rw [decide_eq_true (show (8 : Int) < (P.length : Int) by omega), decide_eq_false h8]
                cases nameF n <;> cases linkV t <;> cases placeV p <;> cases decide (i < -2147483648) <;> cases decide (2147483647 < i) <;> rfl
            · rw [decide_eq_false (show ¬ (W.length : Int) = (P.length : Int) by omega), decide_eq_false hl]
              cases nameF n <;> cases linkV t <;> cases placeV p <;> cases decide (i < -2147483648) <;> cases decide (2147483647 < i) <;> rfl
        · rfl
      · cases placeV p <;> cases v <;> rfl
    · cases placeV p <;> cases byV n <;> rfl
  · cases decide (t = []) <;> cases placeV t <;> cases placeV p <;> cases byV n <;> rfl

theorem PackActs_true (k : Int) (n p t : List UInt8) (m1 m2 m3 i : Int) (b1 b2 : Bool) (P : List (List UInt8 × List UInt8)) (W : List (List UInt8)) :
    cellarerlaw19_PackActs k n p t m1 m2 m3 i b1 b2 P W = some true := by
  unfold cellarerlaw19_PackActs
  rw [awake19]
  obtain ⟨v, h1, h2⟩ := few11 n t p P W
  have hf : ∃ q, cellarerlaw19_FewActs (List.drop (0 : Nat) [(k, n, p, t, (m1, m2, m3), i, b1, b2, P, W)]) ((1 : Int)) = some q ∧ (q = true → v = true) := by
    unfold cellarerlaw19_FewActs
    have hd : decide ((1 : Int) < ((List.drop (0 : Nat) [(k, n, p, t, (m1, m2, m3), i, b1, b2, P, W)]).length : Int)) = false := rfl
    rw [hd]
    simp only [cond_false]
    have hb : cellarerlaw19_FewActs_b0 (List.drop (0 : Nat) [(k, n, p, t, (m1, m2, m3), i, b1, b2, P, W)]) (0 : Int) = some (if v = true then .inl (1 : Int) else .inr (.inl ())) := by
      unfold cellarerlaw19_FewActs_b0
      change (cellarerlaw11_Few [(n, t, false, p, P, [([], (0 : Int), W)])]).bind _ = _
      rw [h1]
      cases v <;> rfl
    cases v with
    | false =>
      rw [iter_inr hb]
      exact ⟨false, rfl, fun h => by cases h⟩
    | true =>
      rw [iter_inl hb, iter_inr (t := .inr ()) (by unfold cellarerlaw19_FewActs_b0; rfl)]
      exact ⟨true, rfl, fun _ => rfl⟩
  obtain ⟨q, hq1, hq2⟩ := hf
  rw [hq1]
  cases q with
  | false => rfl
  | true =>
    obtain ⟨q1, q2, q3, q4, q5, q6, q7⟩ := h2 (hq2 rfl)
    obtain ⟨w, w1, w2⟩ := bits_eq m1 m2 m3
    rw [act_eq k n p t m1 m2 m3 i b1 b2 P W w w1 (by omega) (by omega) (by omega) q5 q7, refAct_eq k n p t m1 m2 m3 i b1 b2 P W w w2 (by omega) (by omega) (by omega) q5 q7]
    simp

end Go.Cellar
