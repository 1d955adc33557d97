/- What was fired: the text. No condition. -/
import Derived.Test.YtjdjmbogopadaaaGreatDoorPl12i
set_option linter.unusedSimpArgs false
set_option linter.unusedVariables false
set_option maxRecDepth 4000
namespace Go.Cellar
open Go

def flatS (l : List (List UInt8)) : List UInt8 := l.flatMap fun p => 32 :: p
def wordsL (l : List (List UInt8)) : List (List UInt8) := if l = [] then [[45]] else l
def lineF (x : Fd) : List UInt8 := x.1 ++ flatS (wordsL x.2)
def textF (x : Fd) : List UInt8 := lineF x ++ [10]
def printF (l : List Fd) : List UInt8 := l.flatMap textF
def prnF (l : List Fd) : List UInt8 × Int := if checkF l = 0 then (printF l, 0) else ([], checkF l)

theorem flatS_join : ∀ (w : List (List UInt8)) (a : List UInt8), a ++ flatS w ++ [32] = joinS (a :: w)
  | [], a => by simp [flatS, joinS]
  | p :: r, a => by
    have := flatS_join r p
    simp only [flatS, joinS, List.flatMap_cons] at this ⊢
    rw [← this]
    simp

theorem flatS_len (b : Nat) : ∀ (l : List (List UInt8)), (∀ p ∈ l, p.length ≤ b) → (flatS l).length ≤ l.length * (b + 1)
  | [], _ => by simp [flatS]
  | p :: r, h => by
    have h1 := flatS_len b r fun q hq => h q (List.mem_cons_of_mem _ hq)
    have h2 := h p List.mem_cons_self
    simp only [flatS, List.flatMap_cons, List.length_append, List.length_cons] at h1 ⊢
    rw [Nat.add_mul]
    omega

theorem nameV_small {s : List UInt8} (h : nameV s = true) : 1 ≤ s.length ∧ s.length ≤ 60 := by
  unfold nameV at h
  simp only [Bool.and_eq_true, decide_eq_true_eq] at h
  exact ⟨h.1.1, h.1.2⟩

def OkF (x : Fd) : Prop := trigV x.1 = true ∧ x.2.length ≤ 64 ∧ ∀ p ∈ x.2, nameV p = true

theorem rise_names {l : List (List UInt8)} (h : riseV l = true) : ∀ p ∈ l, nameV p = true := by
  intro p hp
  obtain ⟨k, hk⟩ := allFrom_mem (chkS l) l h p hp
  unfold chkS at hk
  simp only [Bool.and_eq_true] at hk
  exact hk.1

theorem checkF_zero {l : List Fd} (h : checkF l = 0) : l.length ≤ 64 ∧ ∀ x ∈ l, OkF x := by
  unfold checkF at h
  split at h
  · cases h
  · rename_i hq
    have hq1 : ¬ 64 < l.length := fun e => hq (.inl e)
    have hq2 : ¬ l.any longX = true := fun e => hq (.inr e)
    split at h
    · rename_i ha
      refine ⟨by omega, fun x hx => ?_⟩
      obtain ⟨k, hk⟩ := allFrom_mem (chkF l) l ha x hx
      unfold chkF at hk
      simp only [Bool.and_eq_true] at hk
      refine ⟨hk.1, ?_, rise_names hk.2.1⟩
      have h3 : l.any longX = false := by simpa using hq2
      have h4 := List.any_eq_false.mp h3 x hx
      unfold longX at h4
      simp at h4
      omega
    · cases h

theorem words_len {x : Fd} (h : OkF x) : (flatS (wordsL x.2)).length ≤ 4000 := by
  obtain ⟨_, h1, h2⟩ := h
  unfold wordsL
  split
  · simp [flatS]
  · have := flatS_len 60 x.2 fun p hp => (nameV_small (h2 p hp)).2
    omega

theorem joinW (l : List (List UInt8)) (h : ∀ p ∈ l, nameV p = true) : [32] ++ (if Lib.join l [32] = [] then [45] else Lib.join l [32]) = flatS (wordsL l) := by
  unfold wordsL
  cases l with
  | nil => simp [Lib.join_nil, flatS]
  | cons p r =>
    have hp := (nameV_small (h p List.mem_cons_self)).1
    have hj : Lib.join (p :: r) [32] = p ++ flatS r := by
      rw [Lib.join_cons]
      simp [Lib.joinTail, flatS, List.flatMap]
    rw [hj, if_neg (by
      intro e
      have := congrArg List.length e
      simp only [List.length_append, List.length_nil] at this
      omega), if_neg (by simp)]
    simp [flatS]

theorem printF_loop (l : List Fd) (hl : SmF l) (hok : ∀ x ∈ l, OkF x) : ∀ (r : List Fd) (k : Nat) (s : List UInt8), l.drop k = r → s.length ≤ k * 20020 →
    iter (trigs_PrintFired_b0 l (l.length : Int)) (s, (k : Int)) = some (s ++ printF r) := by
  have hl1 := hl.1
  intro r
  induction r with
  | nil =>
    intro k s h hs
    have := drop_nil h
    rw [iter_inr (t := s)]
    · simp [printF]
    · unfold trigs_PrintFired_b0
      simp [show ¬ k < l.length by omega]
  | cons x r ih =>
    intro k s h hs
    obtain ⟨g1, g2, g3⟩ := drop_cons h ([], [])
    have hx : x ∈ l := List.mem_of_mem_drop (by rw [h]; simp)
    have hsh := hl.2 x hx
    have hw := words_len (hok x hx)
    have hj := joinW x.2 (hok x hx).2.2
    have hjl : (if Lib.join x.2 [32] = [] then [45] else Lib.join x.2 [32]).length ≤ 4000 := by
      have := congrArg List.length hj
      simp only [List.length_append, List.length_cons, List.length_nil] at this
      omega
    have hjj : (Lib.join x.2 [32]).length ≤ 4000 := by
      split at hjl
      · rename_i e; rw [e]; simp
      · exact hjl
    have ht : (textF x).length ≤ 20020 := by
      unfold textF lineF
      simp only [List.length_append, List.length_cons, List.length_nil]
      omega
    have e0 : strings_Join x.2 [32] = some (Lib.join x.2 [32]) := by
      unfold strings_Join
      rw [if_pos (by have := hsh.2.1; omega)]
    have e1 : s ++ (x.1 ++ [32] ++ (if Lib.join x.2 [32] = [] then [45] else Lib.join x.2 [32]) ++ [10]) = s ++ textF x := by
      unfold textF lineF
      rw [← hj]
      simp
    rw [iter_inl (s' := (s ++ textF x, ((k + 1 : Nat) : Int))), ih (k + 1) _ g3 (by rw [List.length_append]; omega)]
    · simp [printF]
    · unfold trigs_PrintFired_b0
      simp only [natlt, g1, decide_true, cond_true, Int.natCast_nonneg, true_and, if_true, Int.toNat_natCast, g2, kplus g1 (by omega), e0, Option.bind_some]
      by_cases hq : Lib.join x.2 [32] = []
      · rw [if_pos hq] at e1 hjl
        rw [decide_eq_true hq]
        simp only [cond_true, Option.bind_some]
        rw [if_pos (by first | omega | (simp; omega)), if_pos (by first | omega | (simp; omega)), if_pos (by first | omega | (simp; omega)), if_pos (by first | omega | (simp; omega)), e1]
      · rw [if_neg hq] at e1 hjl
        rw [decide_eq_false hq]
        simp only [cond_false, Option.bind_some]
        rw [if_pos (by first | omega | (simp; omega)), if_pos (by first | omega | (simp; omega)), if_pos (by first | omega | (simp; omega)), if_pos (by first | omega | (simp; omega)), e1]

theorem printF_eq (l : List Fd) (hl : SmF l) : trigs_PrintFired l = some (prnF l) := by
  unfold trigs_PrintFired prnF
  rw [checkF_eq l hl]
  by_cases c : checkF l = 0
  · have h : iter (trigs_PrintFired_b0 l (l.length : Int)) (([] : List UInt8), (0 : Int)) = _ := printF_loop l hl (checkF_zero c).2 l 0 [] rfl (by simp)
    simp only [Option.bind_some, c, decide_true, Bool.not_true, cond_false, if_true, h]
    rfl
  · simp [c]

theorem refWords_loop (l : List Fd) (i : Nat) (hi : i < l.length) (w : List (List UInt8)) (hw : (l.getD i ([], [])).2 = w) (hlen : w.length ≤ 64) (hn : ∀ p ∈ w, p.length ≤ 60) :
    ∀ (r : List (List UInt8)) (k : Nat) (s : List UInt8), w.drop k = r → s.length ≤ 300000000 + k * 61 → iter (cellarerref12_PrintFired_b0 l (i : Int)) (s, (k : Int)) = some (s ++ flatS r) := by
  intro r
  induction r with
  | nil =>
    intro k s h hs
    have := drop_nil h
    rw [iter_inr (t := s)]
    · simp [flatS]
    · unfold cellarerref12_PrintFired_b0
      rw [if_pos (by omega)]
      simp only [Int.toNat_natCast, hw]
      rw [decide_eq_false (by omega)]
      rfl
  | cons p r ih =>
    intro k s h hs
    obtain ⟨g1, g2, g3⟩ := drop_cons h []
    have hp : p ∈ w := List.mem_of_mem_drop (by rw [h]; simp)
    have hpl := hn p hp
    rw [iter_inl (s' := (s ++ [32] ++ p, ((k + 1 : Nat) : Int))), ih (k + 1) _ g3 (by simp; omega)]
    · simp [flatS]
    · unfold cellarerref12_PrintFired_b0
      rw [if_pos (by omega)]
      simp only [Int.toNat_natCast, hw, g2]
      rw [decide_eq_true (by omega), kplus g1 (by omega)]
      simp only [cond_true]
      rw [if_pos (by first | omega | (simp; omega)), if_pos (by omega), if_pos (by omega), if_pos (by first | omega | (simp; omega))]

theorem refPrintF_loop (l : List Fd) (hl : SmF l) (hok : ∀ x ∈ l, OkF x) : ∀ (r : List Fd) (k : Nat) (s : List UInt8), l.drop k = r → s.length ≤ k * 20020 →
    iter (cellarerref12_PrintFired_b1 l) (s, (k : Int)) = some (s ++ printF r) := by
  have hl1 := hl.1
  intro r
  induction r with
  | nil =>
    intro k s h hs
    have := drop_nil h
    rw [iter_inr (t := s)]
    · simp [printF]
    · unfold cellarerref12_PrintFired_b1
      simp [show ¬ k < l.length by omega]
  | cons x r ih =>
    intro k s h hs
    obtain ⟨g1, g2, g3⟩ := drop_cons h ([], [])
    have hx : x ∈ l := List.mem_of_mem_drop (by rw [h]; simp)
    have hsh := hl.2 x hx
    have hw := words_len (hok x hx)
    have ht : (textF x).length ≤ 20020 := by
      unfold textF lineF
      simp only [List.length_append, List.length_cons, List.length_nil]
      omega
    have hfl := flatS_len 60 x.2 fun p hp => (nameV_small ((hok x hx).2.2 p hp)).2
    have h64 := (hok x hx).2.1
    have e0 : iter (cellarerref12_PrintFired_b0 l (k : Int)) (s ++ x.1, (0 : Int)) = some (s ++ x.1 ++ flatS x.2) :=
      refWords_loop l k g1 x.2 (by rw [g2]) h64 (fun p hp => (nameV_small ((hok x hx).2.2 p hp)).2) x.2 0 (s ++ x.1) rfl (by simp; omega)
    rw [iter_inl (s' := (s ++ textF x, ((k + 1 : Nat) : Int))), ih (k + 1) _ g3 (by rw [List.length_append]; omega)]
    · simp [printF]
    · unfold cellarerref12_PrintFired_b1
      simp only [natlt, g1, decide_true, cond_true, Int.natCast_nonneg, true_and, if_true, Int.toNat_natCast, g2, kplus g1 (by omega)]
      rw [if_pos (by first | omega | (simp; omega)), e0]
      simp only [Option.bind_some]
      by_cases hq : x.2 = []
      · rw [decide_eq_true (by rw [hq]; rfl)]
        simp only [cond_true]
        rw [if_pos (by first | omega | (simp; omega)), if_pos (by first | omega | (simp; omega))]
        simp [textF, lineF, wordsL, hq, flatS]
      · have : 0 < x.2.length := List.length_pos_iff.mpr hq
        rw [decide_eq_false (by omega)]
        simp only [cond_false]
        rw [if_pos (by first | omega | (simp; omega))]
        simp [textF, lineF, wordsL, hq]

theorem refPrintF_eq (l : List Fd) (hl : SmF l) : cellarerref12_PrintFired l = some (prnF l) := by
  unfold cellarerref12_PrintFired prnF
  rw [refCheckF_eq l hl]
  by_cases c : checkF l = 0
  · have h : iter (cellarerref12_PrintFired_b1 l) (([] : List UInt8), (0 : Int)) = _ := refPrintF_loop l hl (checkF_zero c).2 l 0 [] rfl (by simp)
    simp only [Option.bind_some, c, decide_true, Bool.not_true, cond_false, if_true, h]
    rfl
  · simp [c]

end Go.Cellar
