/- Overrides, by plain lists: texts read. No condition. -/
import Derived.Test.YtblmgbbablmedaaDoorPl10o

set_option linter.unusedSimpArgs false
set_option linter.unusedVariables false
set_option maxRecDepth 4000
namespace Go.Cellar
open Go

/-! ### words of a line, as numbers -/

noncomputable def idO (s : List UInt8) : Int × Bool := (overs_reader__id s false).getD (0, true)
noncomputable def modeO (s : List UInt8) : Int := if isOct s = true then ((octN s : Nat) : Int) else 0

theorem trim_eq (s : List UInt8) : strings_TrimPrefix s [35] = some (if s.take 1 = [35] then s.drop 1 else s) := by
  have hp := hasPrefix_eq s [35]
  unfold strings_HasPrefix at hp
  unfold strings_TrimPrefix stringslite_TrimPrefix
  cases hq : stringslite_HasPrefix s [35] with
  | none => rw [hq] at hp; cases hp
  | some b =>
    rw [hq] at hp
    simp only [Option.bind_some, Option.some.injEq] at hp
    have hp' : b = decide (s.take 1 = [35]) := hp
    subst hp'
    by_cases h : s.take 1 = [35]
    · have h1 : 1 ≤ s.length := by
        have := congrArg List.length h
        simp at this; omega
      simp only [h, decide_true, cond_true, Option.bind_some, if_true, List.length_cons, List.length_nil]
      rw [if_pos (by omega)]
      simp
    · simp only [h, decide_false, cond_false, Option.bind_some, if_false]

theorem id_some (s : List UInt8) (hs : s.length < 1000000) : ∃ n b, (∀ o, overs_reader__id s o = some (n, o || b)) ∧ (b = false → s = 35 :: digI n) := by
  have hlen : (if s.take 1 = [35] then s.drop 1 else s).length < 1000000 := by
    split
    · simp; omega
    · exact hs
  obtain ⟨n, e, h1, h2⟩ := bitsInt_some (if s.take 1 = [35] then s.drop 1 else s) hlen
  refine ⟨n, !(decide (e = 0) && decide (s.take 1 = [35])), fun o => ?_, fun hb => ?_⟩
  · unfold overs_reader__id
    have hp : strings_HasPrefix s [35] = some (decide (s.take 1 = [35])) := hasPrefix_eq s [35]
    rw [trim_eq, Option.bind_some, h1, Option.bind_some, hp]
    cases o
    · by_cases he : e = 0
      · simp [he]
      · simp [he]
    · simp
  · simp only [Bool.not_eq_false', Bool.and_eq_true, decide_eq_true_eq] at hb
    have hd := h2 hb.1
    rw [if_pos hb.2] at hd
    rw [hd, ← List.take_append_drop 1 s, hb.2]
    simp

theorem id_eq (s : List UInt8) (hs : s.length < 1000000) (o : Bool) : overs_reader__id s o = some ((idO s).1, o || (idO s).2) := by
  obtain ⟨n, b, h1, h2⟩ := id_some s hs
  have : idO s = (n, b) := by unfold idO; rw [h1 false]; rfl
  rw [h1 o, this]

theorem id_good (s : List UInt8) (hs : s.length < 1000000) (h : (idO s).2 = false) : s = 35 :: digI (idO s).1 := by
  obtain ⟨n, b, h1, h2⟩ := id_some s hs
  have e : idO s = (n, b) := by unfold idO; rw [h1 false]; rfl
  rw [e] at h ⊢
  exact h2 h

theorem id_dig (m : Nat) (h : m < 100000000) : idO (35 :: dig m) = ((m : Int), false) := by
  unfold idO overs_reader__id
  have ht : (35 :: dig m).take 1 = [35] := rfl
  have hp : strings_HasPrefix (35 :: dig m) [35] = some true := by rw [hasPrefix_eq]; simp
  rw [trim_eq, if_pos ht, Option.bind_some]
  have hd : (35 :: dig m).drop 1 = dig m := rfl
  rw [hd, bitsInt_dig m h]
  simp [hp]

theorem mode_eq (s : List UInt8) (o : Bool) : overs_reader__mode s o = some (modeO s, o || !isOct s) := by
  unfold overs_reader__mode modeO
  rw [parseOctal_eq, Option.bind_some]
  cases o <;> cases isOct s <;> simp

noncomputable def rIdO (s : List UInt8) : Int := ((cellarerref01_Int s).getD (0, false)).1
noncomputable def rModeO (s : List UInt8) : Int := ((cellarerref01_ParseOctal s).getD (0, false)).1

theorem rId_eq (s : List UInt8) (hs : s.length < 1000000) : ∃ ok, cellarerref01_Int s = some (rIdO s, ok) := by
  obtain ⟨n, ok, h⟩ := refInt_some s hs
  exact ⟨ok, by rw [h]; unfold rIdO; rw [h]; rfl⟩

theorem rMode_eq (s : List UInt8) : ∃ ok, cellarerref01_ParseOctal s = some (rModeO s, ok) := by
  obtain ⟨n, ok, h⟩ := refParseOctal_some s
  exact ⟨ok, by rw [h]; unfold rModeO; rw [h]; rfl⟩

theorem behind_eq (s : List UInt8) : cellarerref10_behind s = some (s.drop 1) := by
  unfold cellarerref10_behind
  by_cases h : s = []
  · simp [h]
  · have : 0 < s.length := List.length_pos_iff.mpr h
    simp only [h, decide_false, cond_false]
    rw [if_pos (by omega)]
    simp

/-! ### a line -/

def wd (l : List UInt8) (i : Nat) : List UInt8 := (pieces_S l []).getD i []
def fourW (l : List UInt8) : Bool := decide ((pieces_S l []).length = 4)
noncomputable def entO (l : List UInt8) : Ov := (wd l 3, modeO (wd l 2), (idO (wd l 0)).1, (idO (wd l 1)).1)
noncomputable def rentO (l : List UInt8) : Ov := (wd l 3, rModeO (wd l 2), rIdO ((wd l 0).drop 1), rIdO ((wd l 1).drop 1))
noncomputable def badO (l : List UInt8) : Bool := (idO (wd l 0)).2 || ((idO (wd l 1)).2 || !isOct (wd l 2))

theorem pieces_small_S : ∀ (t acc : List UInt8) (n : Nat), acc.length + t.length ≤ n → ∀ x ∈ pieces_S t acc, x.length ≤ n := by
  intro t
  induction t with
  | nil => intro acc n h x hx; simp only [pieces_S, List.mem_singleton] at hx; subst hx; simp at h; omega
  | cons c r ih =>
    intro acc n h x hx
    simp only [List.length_cons] at h
    unfold pieces_S at hx
    split at hx
    · rcases List.mem_cons.mp hx with rfl | hx
      · omega
      · exact ih [] n (by simp; omega) x hx
    · exact ih (acc ++ [c]) n (by simp; omega) x hx

theorem wd_small (l : List UInt8) (i : Nat) : (wd l i).length ≤ l.length := by
  unfold wd
  rw [List.getD_eq_getElem?_getD]
  cases h : (pieces_S l [])[i]? with
  | none => simp
  | some x => exact pieces_small_S l [] l.length (by simp) x (List.mem_of_getElem? h)

theorem split_eq (s : List UInt8) (hs : s.length < 1000000) : strings_Split s [32] = some (pieces_S s []) := by
  unfold strings_Split
  rw [genSplit_eq_S s hs]
  rfl

theorem refSplit_loop_S (s : List UInt8) (hs : s.length < 1000000) : ∀ (r : List UInt8) (k : Nat) (acc : List UInt8) (out : List (List UInt8)), s.drop k = r → k + r.length = s.length → acc.length ≤ k → out.length ≤ k →
    ∃ acc' out', iter (cellarerref06_Split_b0 s 32) (acc, (k : Int), out) = some (acc', out') ∧ out' ++ [acc'] = out ++ pieces_S r acc ∧ acc'.length ≤ s.length ∧ out'.length ≤ s.length := by
  intro r
  induction r with
  | nil =>
    intro k acc out h hk ha ho
    simp only [List.length_nil] at hk
    refine ⟨acc, out, ?_, ?_, by omega, by omega⟩
    · rw [iter_inr (t := (acc, out))]
      unfold cellarerref06_Split_b0
      simp [show ¬ k < s.length by omega]
    · simp only [pieces_S]
  | cons c r ih =>
    intro k acc out h hk ha ho
    simp only [List.length_cons] at hk
    obtain ⟨g1, g2, g3⟩ := drop_cons h 0
    have hb : cellarerref06_Split_b0 s 32 (acc, (k : Int), out) = some (.inl (if c = 32 then ([], ((k + 1 : Nat) : Int), out ++ [acc]) else (acc ++ [c], ((k + 1 : Nat) : Int), out))) := by
      unfold cellarerref06_Split_b0
      simp only [natlt, g1, decide_true, cond_true, Int.natCast_nonneg, true_and, if_true, Int.toNat_natCast, g2, kplus g1 (by omega), u8_S, slice1 h]
      by_cases hc : c = 32
      · simp only [hc, decide_true, cond_true, if_true, List.drop_zero, List.length_cons, List.length_nil]
        rw [if_pos (by omega)]
      · simp only [hc, decide_false, cond_false, if_false, List.length_cons, List.length_nil]
        rw [if_pos (by omega), if_pos (by omega)]
    rw [iter_inl hb]
    by_cases hc : c = 32
    · rw [if_pos hc]
      obtain ⟨acc', out', h1, h2, h3, h4⟩ := ih (k + 1) [] (out ++ [acc]) g3 (by omega) (by simp) (by simp; omega)
      refine ⟨acc', out', h1, ?_, h3, h4⟩
      rw [h2]
      simp only [pieces_S, hc, if_true]
      simp
    · rw [if_neg hc]
      obtain ⟨acc', out', h1, h2, h3, h4⟩ := ih (k + 1) (acc ++ [c]) out g3 (by omega) (by simp; omega) (by omega)
      refine ⟨acc', out', h1, ?_, h3, h4⟩
      rw [h2]
      simp only [pieces_S, hc, if_false]

theorem refSplit_eq_S (s : List UInt8) (hs : s.length < 1000000) : cellarerref06_Split s 32 = some (pieces_S s []) := by
  unfold cellarerref06_Split
  obtain ⟨acc, out, h1, h2, h3, h4⟩ := refSplit_loop_S s hs s 0 [] [] rfl (by simp) (by simp) (by simp)
  have h1' : iter (cellarerref06_Split_b0 s 32) ([], (0 : Int), []) = some (acc, out) := h1
  rw [h1']
  simp only [Option.bind_some, List.drop_zero, List.length_cons, List.length_nil]
  rw [if_pos (by omega), h2]
  simp

theorem parse_step (L : List (List UInt8)) (hL : L.length < 100000) (k : Nat) (l : List UInt8) (r : List (List UInt8)) (h : L.drop k = l :: r) (hl : l.length < 100000) (odd : Bool) (out : List Ov) (ho : out.length ≤ 100000) :
    overs_Parse_b0 ((L.length : Int) - ((0 : Nat) : Int)) L ((k : Int), odd, out) = some (if fourW l = true then .inl (((k + 1 : Nat) : Int), odd || badO l, out ++ [entO l]) else .inr (.inl ())) := by
  obtain ⟨g1, g2, g3⟩ := drop_cons h []
  unfold overs_Parse_b0
  have e0 : (L.length : Int) - ((0 : Nat) : Int) = (L.length : Int) := by omega
  have e1 : ((k : Int) + ((0 : Nat) : Int)) = (k : Int) := by omega
  have e2 : ∀ n : Nat, ((n : Int) - ((0 : Nat) : Int)) = (n : Int) := fun n => by omega
  simp only [e0, natlt, g1, decide_true, cond_true, Int.natCast_nonneg, true_and, e1, if_true, Int.toNat_natCast, Nat.zero_add, g2, split_eq l (by omega), Option.bind_some, e2, kplus g1 (by omega)]
  by_cases h4 : (pieces_S l []).length = 4
  · have hd : decide ((((pieces_S l []).length : Nat) : Int) = 4) = true := decide_eq_true (by omega)
    have hw : fourW l = true := decide_eq_true h4
    have s0 := wd_small l 0
    have s1 := wd_small l 1
    simp only [hd, Bool.not_true, cond_false, hw, if_true]
    rw [if_pos (by omega), if_pos (by omega), if_pos (by omega), if_pos (by omega)]
    have i0 := id_eq (wd l 0) (by omega) odd
    have i1 := id_eq (wd l 1) (by omega) (odd || (idO (wd l 0)).2)
    have m2 := mode_eq (wd l 2) (odd || (idO (wd l 0)).2 || (idO (wd l 1)).2)
    unfold wd at i0 i1 m2
    simp only [i0, Option.bind_some]
    rw [if_pos (by omega), if_pos (by omega)]
    simp only [i1, Option.bind_some]
    rw [if_pos (by omega), if_pos (by omega)]
    simp only [m2, Option.bind_some, List.drop_zero, List.length_cons, List.length_nil]
    rw [if_pos (by omega)]
    simp only [badO, wd, entO, Bool.or_assoc]
  · have hd : decide ((((pieces_S l []).length : Nat) : Int) = 4) = false := decide_eq_false (by omega)
    have hw : fourW l = false := decide_eq_false h4
    simp only [hd, Bool.not_false, cond_true, hw, Bool.false_eq_true, if_false]

theorem parseO_loop (L : List (List UInt8)) (hL : L.length < 100000) (hs : ∀ l ∈ L, l.length < 100000) : ∀ (r : List (List UInt8)) (k : Nat) (odd : Bool) (out : List Ov), L.drop k = r → out.length ≤ k →
    iter (overs_Parse_b0 ((L.length : Int) - ((0 : Nat) : Int)) L) ((k : Int), odd, out) = some (if r.all fourW = true then .inr (odd || r.any badO, out ++ r.map entO) else .inl ()) := by
  intro r
  induction r with
  | nil =>
    intro k odd out h ho
    have := drop_nil h
    rw [iter_inr (t := .inr (odd, out))]
    · simp
    · unfold overs_Parse_b0
      have e0 : (L.length : Int) - ((0 : Nat) : Int) = (L.length : Int) := by omega
      simp [show ¬ k < L.length by omega]
  | cons l r ih =>
    intro k odd out h ho
    have hk : k < L.length := (drop_cons h []).1
    have hst := parse_step L hL k l r h (hs l (List.mem_of_mem_drop (by rw [h]; simp))) odd out (by omega)
    by_cases h4 : fourW l = true
    · rw [if_pos h4] at hst
      rw [iter_inl hst, ih (k + 1) _ _ (drop_cons h []).2.2 (by simp; omega)]
      simp only [List.all_cons, h4, Bool.true_and, List.any_cons, List.map_cons, Bool.or_assoc, List.append_assoc, List.cons_append, List.nil_append]
    · rw [if_neg h4] at hst
      rw [iter_inr hst]
      simp [h4]

noncomputable def parseO (s : List UInt8) : Int × List Ov :=
  if (linesV s).1 = true ∧ (linesV s).2.all fourW = true ∧ (linesV s).2.any badO = false ∧ checkO ((linesV s).2.map entO) = 0 then (0, (linesV s).2.map entO) else (2, [])

theorem lines_small (s : List UInt8) : ∀ x ∈ (linesV s).2, x.length ≤ s.length := by
  intro x hx
  unfold linesV at hx
  split at hx
  · simp at hx
  · split at hx
    · exact pieces_small s.dropLast [] s.length (by simp) x hx
    · simp at hx

theorem entO_sh (L : List (List UInt8)) (hL : L.length ≤ 10000) (hs : ∀ l ∈ L, l.length ≤ 10000) : ShO (L.map entO) := by
  refine ⟨by simpa using hL, fun x hx => ?_⟩
  obtain ⟨l, hl, rfl⟩ := List.mem_map.mp hx
  have := wd_small l 3
  have := hs l hl
  show (wd l 3).length ≤ 10000
  omega

theorem rentO_sh (L : List (List UInt8)) (hL : L.length ≤ 10000) (hs : ∀ l ∈ L, l.length ≤ 10000) : ShO (L.map rentO) := by
  refine ⟨by simpa using hL, fun x hx => ?_⟩
  obtain ⟨l, hl, rfl⟩ := List.mem_map.mp hx
  have := wd_small l 3
  have := hs l hl
  show (wd l 3).length ≤ 10000
  omega

theorem parseOv_eq (s : List UInt8) (hs : s.length ≤ 9000 ∨ ((linesV s).2.length ≤ 10000 ∧ (∀ l ∈ (linesV s).2, l.length ≤ 10000) ∧ s.length < 1000000)) : overs_Parse s = some (parseO s) := by
  have hls : s.length < 1000000 := by rcases hs with h | h <;> omega
  have hn : (linesV s).2.length ≤ 10000 := by
    rcases hs with h | h
    · have := linesV_len s; omega
    · exact h.1
  have hw : ∀ l ∈ (linesV s).2, l.length ≤ 10000 := by
    rcases hs with h | h
    · intro l hl; have := lines_small s l hl; omega
    · exact h.2.1
  unfold overs_Parse parseO
  rw [lines_eq s hls, Option.bind_some]
  by_cases c : (linesV s).1 = true
  · simp only [c, if_true, decide_true, Bool.not_true, cond_false, true_and]
    have h : iter (overs_Parse_b0 (((linesV s).2.length : Int) - ((0 : Nat) : Int)) (linesV s).2) ((0 : Int), false, []) = _ := parseO_loop (linesV s).2 (by omega) (fun l hl => by have := hw l hl; omega) (linesV s).2 0 false [] rfl (by simp)
    rw [h]
    by_cases c4 : (linesV s).2.all fourW = true
    · rw [if_pos c4]
      simp only [c4, Option.bind_some, Sum.elim_inr, Bool.false_or, List.nil_append, true_and]
      cases hb : (linesV s).2.any badO
      · simp only [cond_false, List.drop_zero, checkO_eq _ (entO_sh _ hn hw), Option.bind_some, true_and]
        by_cases hc : checkO ((linesV s).2.map entO) = 0
        · simp only [hc, decide_true, Bool.not_true, cond_false, if_true]
        · simp only [hc, decide_false, Bool.not_false, cond_true, if_false]
      · simp
    · rw [if_neg c4]
      simp [c4]
  · simp only [c, Bool.false_eq_true, if_false, false_and]
    simp

theorem rparse_step (L : List (List UInt8)) (hL : L.length < 100000) (k : Nat) (l : List UInt8) (r : List (List UInt8)) (h : L.drop k = l :: r) (hl : l.length < 100000) (out : List Ov) (ho : out.length ≤ 100000) :
    cellarerref10_Parse_b0 L ((k : Int), out) = some (if fourW l = true then .inl (((k + 1 : Nat) : Int), out ++ [rentO l]) else .inr (.inl ())) := by
  obtain ⟨g1, g2, g3⟩ := drop_cons h []
  unfold cellarerref10_Parse_b0
  have e0 : (L.length : Int) - ((0 : Nat) : Int) = (L.length : Int) := by omega
  have e1 : ((k : Int) + ((0 : Nat) : Int)) = (k : Int) := by omega
  have e2 : ∀ n : Nat, ((n : Int) - ((0 : Nat) : Int)) = (n : Int) := fun n => by omega
  simp only [e0, natlt, g1, decide_true, cond_true, Int.natCast_nonneg, true_and, e1, if_true, Int.toNat_natCast, Nat.zero_add, g2, refSplit_eq_S l (by omega), Option.bind_some, e2, kplus g1 (by omega)]
  by_cases h4 : (pieces_S l []).length = 4
  · have hd : decide ((((pieces_S l []).length : Nat) : Int) = 4) = true := decide_eq_true (by omega)
    have hw : fourW l = true := decide_eq_true h4
    have s0 := wd_small l 0
    have s1 := wd_small l 1
    simp only [hd, Bool.not_true, cond_false, hw, if_true]
    rw [if_pos (by omega), if_pos (by omega)]
    obtain ⟨k0, i0⟩ := rId_eq ((wd l 0).drop 1) (by simp; omega)
    obtain ⟨k1, i1⟩ := rId_eq ((wd l 1).drop 1) (by simp; omega)
    obtain ⟨k2, m2⟩ := rMode_eq (wd l 2)
    unfold wd at i0 i1 m2
    simp only [behind_eq, i0, Option.bind_some]
    rw [if_pos (by omega), if_pos (by omega)]
    simp only [i1, Option.bind_some]
    rw [if_pos (by omega), if_pos (by omega)]
    simp only [m2, Option.bind_some, List.drop_zero, List.length_cons, List.length_nil]
    rw [if_pos (by omega), if_pos (by omega), if_pos (by omega)]
    simp only [wd, rentO]
  · have hd : decide ((((pieces_S l []).length : Nat) : Int) = 4) = false := decide_eq_false (by omega)
    have hw : fourW l = false := decide_eq_false h4
    simp only [hd, Bool.not_false, cond_true, hw, Bool.false_eq_true, if_false]

theorem rparseO_loop (L : List (List UInt8)) (hL : L.length < 100000) (hs : ∀ l ∈ L, l.length < 100000) : ∀ (r : List (List UInt8)) (k : Nat) (out : List Ov), L.drop k = r → out.length ≤ k →
    iter (cellarerref10_Parse_b0 L) ((k : Int), out) = some (if r.all fourW = true then .inr (out ++ r.map rentO) else .inl ()) := by
  intro r
  induction r with
  | nil =>
    intro k out h ho
    have := drop_nil h
    rw [iter_inr (t := .inr out)]
    · simp
    · unfold cellarerref10_Parse_b0
      have e0 : (L.length : Int) - ((0 : Nat) : Int) = (L.length : Int) := by omega
      simp [show ¬ k < L.length by omega]
  | cons l r ih =>
    intro k out h ho
    have hk : k < L.length := (drop_cons h []).1
    have hst := rparse_step L hL k l r h (hs l (List.mem_of_mem_drop (by rw [h]; simp))) out (by omega)
    by_cases h4 : fourW l = true
    · rw [if_pos h4] at hst
      rw [iter_inl hst, ih (k + 1) _ (drop_cons h []).2.2 (by simp; omega)]
      simp only [List.all_cons, h4, Bool.true_and, List.map_cons, List.append_assoc, List.cons_append, List.nil_append]
    · rw [if_neg h4] at hst
      rw [iter_inr hst]
      simp [h4]

noncomputable def rparseO (s : List UInt8) : Bool × List Ov :=
  if (linesV s).1 = true ∧ (linesV s).2.all fourW = true ∧ checkO ((linesV s).2.map rentO) = 0 ∧ printO ((linesV s).2.map rentO) = s then (true, (linesV s).2.map rentO) else (false, [])

theorem rparseOv_eq (s : List UInt8) (hs : s.length ≤ 9000) : cellarerref10_Parse s = some (rparseO s) := by
  obtain ⟨h1, h2⟩ := refLines_eq s (by omega)
  have hpl := pieces_L_len s []
  have hps : ∀ l ∈ (pieces_L s []).dropLast, l.length ≤ 10000 := fun l hl => by
    have := pieces_small s [] s.length (by simp) l (List.dropLast_subset _ hl)
    omega
  have hpd : (pieces_L s []).dropLast.length ≤ 10000 := by simp; omega
  unfold cellarerref10_Parse rparseO
  rw [h1, Option.bind_some]
  have h : iter (cellarerref10_Parse_b0 (pieces_L s []).dropLast) ((0 : Int), []) = _ := rparseO_loop (pieces_L s []).dropLast (by omega) (fun l hl => by have := hps l hl; omega) (pieces_L s []).dropLast 0 [] rfl (by simp)
  simp only [h]
  by_cases c : (linesV s).1 = true
  · rw [h2 c]
    by_cases c4 : (pieces_L s []).dropLast.all fourW = true
    · rw [if_pos c4]
      simp only [Option.bind_some, Sum.elim_inr, List.nil_append, List.drop_zero, refPrintOv_eq _ (rentO_sh _ hpd hps), prnO]
      by_cases hc : checkO ((pieces_L s []).dropLast.map rentO) = 0
      · by_cases hp : printO ((pieces_L s []).dropLast.map rentO) = s
        · simp only [c, c4, hc, hp, if_true, decide_true, Bool.not_true, cond_false, and_self]
        · simp only [c, c4, hc, hp, if_true, decide_true, decide_false, Bool.not_true, Bool.not_false, cond_false, cond_true, and_false, if_false]
      · simp only [c, c4, hc, if_false, decide_false, Bool.not_true, Bool.not_false, cond_false, cond_true, and_false, false_and, if_false]
    · rw [if_neg c4]
      simp [c4]
  · have hcf : (linesV s).1 = false := by simpa using c
    simp only [hcf, Bool.false_eq_true, false_and, if_false]
    by_cases c4 : (pieces_L s []).dropLast.all fourW = true
    · rw [if_pos c4]
      simp only [Option.bind_some, Sum.elim_inr, List.nil_append, List.drop_zero, refPrintOv_eq _ (rentO_sh _ hpd hps), Bool.not_false, cond_true]
    · rw [if_neg c4]
      simp

end Go.Cellar

/- Overrides, by plain lists: what is printed is read, and what is read is printed so. No condition. -/
set_option linter.unusedSimpArgs false
set_option linter.unusedVariables false
set_option maxRecDepth 4000
namespace Go.Cellar
open Go

def joinS (l : List (List UInt8)) : List UInt8 := l.flatMap fun x => x ++ [32]

theorem pieces_join_S : ∀ (t acc : List UInt8), joinS (pieces_S t acc) = acc ++ t ++ [32] := by
  intro t
  induction t with
  | nil => intro acc; simp [pieces_S, joinS]
  | cons c r ih =>
    intro acc
    simp only [pieces_S]
    split
    · rename_i hc
      subst hc
      have := ih []
      simp only [joinS, List.flatMap_cons] at this ⊢
      rw [this]
      simp
    · rw [ih]; simp

theorem plain_no32 {s : List UInt8} (h : rightV s = true) : ∀ c ∈ s, c ≠ 32 := by
  unfold rightV at h
  simp only [Bool.and_eq_true, decide_eq_true_eq] at h
  have hp : plainV s = true := by
    cases hq : plainV s with
    | true => rfl
    | false => rw [cleanV, if_neg (by rw [hq]; simp)] at h; cases h.1
  unfold plainV at hp
  simp only [Bool.and_eq_true, List.all_eq_true] at hp
  intro c hc e
  have := hp.1 c hc
  subst e
  revert this; decide

theorem pieces_one_S : ∀ (x q acc : List UInt8), (∀ c ∈ x, c ≠ 32) → pieces_S (x ++ 32 :: q) acc = (acc ++ x) :: pieces_S q [] := by
  intro x
  induction x with
  | nil => intro q acc _; simp [pieces_S]
  | cons c r ih =>
    intro q acc h
    have hc := h c (by simp)
    simp only [List.cons_append, pieces_S, hc, if_false]
    rw [ih q _ (fun y hy => h y (by simp [hy]))]
    simp

theorem dig_no {m : Nat} (h : m < 100000000) (c : UInt8) (hc : isDg c = false) : ∀ x ∈ dig m, x ≠ c := by
  intro x hx e
  subst e
  rw [dig_all 8 m (by omega) x hx] at hc
  cases hc

theorem octV_no (m : Nat) (c : UInt8) (hc : isO c = false) : ∀ x ∈ octV m, x ≠ c := by
  intro x hx e
  subst e
  simp only [octV, List.mem_cons, List.not_mem_nil, or_false] at hx
  rcases hx with rfl | rfl | rfl | rfl <;> rw [octD_isO] at hc <;> cases hc

theorem count_none {s : List UInt8} (h : ∀ c ∈ s, c ≠ 32) : s.count 32 = 0 := List.count_eq_zero.mpr fun hm => h 32 hm rfl

/-- A line of one that may be. -/
theorem line_words (x : Ov) (h : rightO x = true) : pieces_S (lineO x) [] = [35 :: dig x.2.2.1.toNat, 35 :: dig x.2.2.2.toNat, octV x.2.1.toNat, x.1] ∧ (∀ c ∈ lineO x, c ≠ 10) ∧ x.2.1.toNat < 4096 ∧ x.2.2.1.toNat < 100000000 ∧ x.2.2.2.toNat < 100000000 ∧ ((x.2.1.toNat : Nat) : Int) = x.2.1 ∧ ((x.2.2.1.toNat : Nat) : Int) = x.2.2.1 ∧ ((x.2.2.2.toNat : Nat) : Int) = x.2.2.2 := by
  unfold rightO at h
  simp only [Bool.and_eq_true] at h
  obtain ⟨hp, hm⟩ := h
  obtain ⟨h1, h2, h3, h4, h5, h6⟩ := metaR_iff hm
  have u : digI x.2.2.1 = dig x.2.2.1.toNat := by
    have := digI_nat x.2.2.1.toNat
    rwa [show ((x.2.2.1.toNat : Nat) : Int) = x.2.2.1 by omega] at this
  have g : digI x.2.2.2 = dig x.2.2.2.toNat := by
    have := digI_nat x.2.2.2.toNat
    rwa [show ((x.2.2.2.toNat : Nat) : Int) = x.2.2.2 by omega] at this
  have b1 : x.2.2.1.toNat < 100000000 := by omega
  have b2 : x.2.2.2.toNat < 100000000 := by omega
  have el : lineO x = (35 :: dig x.2.2.1.toNat) ++ 32 :: ((35 :: dig x.2.2.2.toNat) ++ 32 :: (octV x.2.1.toNat ++ 32 :: x.1)) := by
    unfold lineO
    rw [u, g]
    simp
  have n1 : ∀ c ∈ (35 : UInt8) :: dig x.2.2.1.toNat, c ≠ 32 := by
    intro c hc
    rcases List.mem_cons.mp hc with rfl | hc
    · decide
    · exact dig_no b1 32 (by decide) c hc
  have n2 : ∀ c ∈ (35 : UInt8) :: dig x.2.2.2.toNat, c ≠ 32 := by
    intro c hc
    rcases List.mem_cons.mp hc with rfl | hc
    · decide
    · exact dig_no b2 32 (by decide) c hc
  refine ⟨?_, ?_, by omega, b1, b2, by omega, by omega, by omega⟩
  · rw [el, pieces_one_S _ _ _ n1, pieces_one_S _ _ _ n2, pieces_one_S _ _ _ (octV_no _ 32 (by decide)), pieces_none_S _ _ (count_none (plain_no32 hp))]
    rfl
  · rw [el]
    intro c hc
    simp only [List.mem_append, List.mem_cons] at hc
    rcases hc with (rfl | hc) | rfl | (rfl | hc) | rfl | hc | rfl | hc
    · decide
    · exact dig_no b1 10 (by decide) c hc
    · decide
    · decide
    · exact dig_no b2 10 (by decide) c hc
    · decide
    · exact octV_no _ 10 (by decide) c hc
    · decide
    · exact plain_no10 hp c hc

theorem line_back (x : Ov) (h : rightO x = true) : fourW (lineO x) = true ∧ badO (lineO x) = false ∧ entO (lineO x) = x ∧ rentO (lineO x) = x := by
  obtain ⟨hw, _, h1, h2, h3, e1, e2, e3⟩ := line_words x h
  have w0 : wd (lineO x) 0 = 35 :: dig x.2.2.1.toNat := by unfold wd; rw [hw]; rfl
  have w1 : wd (lineO x) 1 = 35 :: dig x.2.2.2.toNat := by unfold wd; rw [hw]; rfl
  have w2 : wd (lineO x) 2 = octV x.2.1.toNat := by unfold wd; rw [hw]; rfl
  have w3 : wd (lineO x) 3 = x.1 := by unfold wd; rw [hw]; rfl
  obtain ⟨o1, o2⟩ := isOct_octV x.2.1.toNat h1
  refine ⟨by unfold fourW; rw [hw]; rfl, ?_, ?_, ?_⟩
  · unfold badO
    rw [w0, w1, w2, id_dig _ h2, id_dig _ h3, o1]
    rfl
  · unfold entO
    rw [w0, w1, w2, w3, id_dig _ h2, id_dig _ h3]
    simp only [modeO, o1, if_true, o2, e1, e2, e3]
  · unfold rentO
    have d0 : (35 :: dig x.2.2.1.toNat).drop 1 = dig x.2.2.1.toNat := rfl
    have d1 : (35 :: dig x.2.2.2.toNat).drop 1 = dig x.2.2.2.toNat := rfl
    rw [w0, w1, w2, w3, d0, d1]
    simp only [rIdO, rModeO, refInt_dig _ h2, refInt_dig _ h3, refParseOctal_eq _ h1, Option.getD_some, e1, e2, e3]

theorem four_split {α : Type} {l : List α} (h : l.length = 4) (d : α) : l = [l.getD 0 d, l.getD 1 d, l.getD 2 d, l.getD 3 d] := by
  match l, h with
  | [_, _, _, _], _ => rfl

/-- A line that reads well is its entry's line. -/
theorem good_line (l : List UInt8) (hl : l.length < 1000000) (h4 : fourW l = true) (hb : badO l = false) : lineO (entO l) = l := by
  unfold badO at hb
  simp only [Bool.or_eq_false_iff, Bool.not_eq_false'] at hb
  obtain ⟨b0, b1, b2⟩ := hb
  have s0 := wd_small l 0
  have s1 := wd_small l 1
  have g0 := id_good (wd l 0) (by omega) b0
  have g1 := id_good (wd l 1) (by omega) b1
  obtain ⟨g2, g3⟩ := octV_of b2
  have hj := pieces_join_S l []
  have h4' : (pieces_S l []).length = 4 := by simpa [fourW] using h4
  rw [four_split h4' []] at hj
  have hj' : wd l 0 ++ [32] ++ (wd l 1 ++ [32] ++ (wd l 2 ++ [32] ++ (wd l 3 ++ [32]))) = l ++ [32] := by
    simpa [joinS, wd] using hj
  have hm : (modeO (wd l 2)).toNat = octN (wd l 2) := by simp [modeO, b2]
  have e : lineO (entO l) = wd l 0 ++ [32] ++ (wd l 1 ++ [32] ++ (wd l 2 ++ [32] ++ wd l 3)) := by
    show [35] ++ digI (idO (wd l 0)).1 ++ [32, 35] ++ digI (idO (wd l 1)).1 ++ [32] ++ octV (modeO (wd l 2)).toNat ++ [32] ++ wd l 3 = _
    rw [hm, g2]
    conv => rhs; rw [g0, g1]
    simp
  rw [e]
  have : (wd l 0 ++ [32] ++ (wd l 1 ++ [32] ++ (wd l 2 ++ [32] ++ wd l 3))) ++ [32] = l ++ [32] := by rw [← hj']; simp
  exact List.append_cancel_right this

theorem printO_join (X : List Ov) : printO X = joinL (X.map lineO) := by
  induction X with
  | nil => rfl
  | cons x r ih => simp only [printO, List.flatMap_cons, List.map_cons, joinL, textO] at ih ⊢; rw [ih]

theorem lines_print {X : List Ov} (h : ∀ x ∈ X, rightO x = true) : linesV (printO X) = (true, X.map lineO) := by
  rw [printO_join]
  refine lines_of _ fun y hy => ?_
  obtain ⟨x, hx, rfl⟩ := List.mem_map.mp hy
  exact (line_words x (h x hx)).2.1

theorem parse_print_O {X : List Ov} (hc : checkO X = 0) : parseO (printO X) = (0, X) := by
  have hr := (checkO_zero hc).2
  have hl := lines_print hr
  have e1 : (X.map lineO).map entO = X := by
    rw [List.map_map]
    have : X.map (entO ∘ lineO) = X.map id := List.map_congr_left fun x hx => (line_back x (hr x hx)).2.2.1
    rw [this, List.map_id]
  have e2 : (X.map lineO).all fourW = true := by
    rw [List.all_eq_true]
    intro y hy
    obtain ⟨x, hx, rfl⟩ := List.mem_map.mp hy
    exact (line_back x (hr x hx)).1
  have e3 : (X.map lineO).any badO = false := by
    rw [List.any_eq_false]
    intro y hy
    obtain ⟨x, hx, rfl⟩ := List.mem_map.mp hy
    simp [(line_back x (hr x hx)).2.1]
  unfold parseO
  rw [hl]
  simp only [e1, e2, e3, hc, and_self, if_true]

theorem parseO_same (s : List UInt8) (hs : s.length < 1000000) : ((rparseO s).1 = decide ((parseO s).1 = 0)) ∧ (rparseO s).2 = (parseO s).2 := by
  by_cases hR : (linesV s).1 = true ∧ (linesV s).2.all fourW = true ∧ checkO ((linesV s).2.map rentO) = 0 ∧ printO ((linesV s).2.map rentO) = s
  · have hp := parse_print_O hR.2.2.1
    rw [hR.2.2.2] at hp
    unfold rparseO
    rw [if_pos hR, hp]
    simp
  · have hnot : ¬ ((linesV s).1 = true ∧ (linesV s).2.all fourW = true ∧ (linesV s).2.any badO = false ∧ checkO ((linesV s).2.map entO) = 0) := by
      rintro ⟨c1, c2, c3, c4⟩
      have hr := (checkO_zero c4).2
      have hline : ∀ l ∈ (linesV s).2, lineO (entO l) = l := by
        intro l hl
        have := lines_small s l hl
        exact good_line l (by omega) (List.all_eq_true.mp c2 l hl) (by simpa using List.any_eq_false.mp c3 l hl)
      have e : (linesV s).2.map rentO = (linesV s).2.map entO := by
        refine List.map_congr_left fun l hl => ?_
        have h1 := (line_back (entO l) (hr (entO l) (List.mem_map.mpr ⟨l, hl, rfl⟩))).2.2.2
        rwa [hline l hl] at h1
      refine hR ⟨c1, c2, by rw [e]; exact c4, ?_⟩
      rw [e, printO_join, List.map_map]
      have : (linesV s).2.map (lineO ∘ entO) = (linesV s).2.map id := List.map_congr_left fun l hl => hline l hl
      rw [this, List.map_id]
      exact lines_join c1
    unfold rparseO parseO
    rw [if_neg hR, if_neg hnot]
    simp

theorem parseO_len (s : List UInt8) (hs : s.length ≤ 9000) : (parseO s).2.length ≤ 10000 ∧ ShO (parseO s).2 := by
  unfold parseO
  split
  · have h1 := linesV_len s
    have := entO_sh (linesV s).2 (by omega) (fun l hl => by have := lines_small s l hl; omega)
    exact ⟨this.1, this⟩
  · exact ⟨by simp, by simp, by simp⟩

theorem OversParses_true (s : List UInt8) : cellarerlaw10_OversParses s = some true := by
  unfold cellarerlaw10_OversParses
  rw [awake10]
  by_cases h3 : s.length ≤ 3000
  · have h3' : ¬ ((3000 : Int) < (s.length : Int)) := by omega
    obtain ⟨q1, q2⟩ := parseO_same s (by omega)
    obtain ⟨q3, q4⟩ := parseO_len s (by omega)
    simp only [h3', decide_false, cond_false, parseOv_eq s (.inl (by omega)), rparseOv_eq s (by omega), Option.bind_some, List.drop_zero, q2, osame_eq _ _ (show (parseO s).2.length < 1000002 by omega), decide_true, Bool.not_true, q1]
    by_cases hz : (parseO s).1 = 0
    · have hpr : overs_Print (parseO s).2 = some (s, 0) := by
        rw [printOv_eq _ q4]
        have hR : (rparseO s).1 = true := by rw [q1, decide_eq_true hz]
        unfold rparseO at hR
        split at hR
        · rename_i hc
          have e : (parseO s).2 = (linesV s).2.map rentO := by
            rw [← q2]; unfold rparseO; rw [if_pos hc]
          rw [e]
          unfold prnO
          rw [if_pos hc.2.2.1, hc.2.2.2]
        · cases hR
      simp only [hz, decide_true, Bool.not_true, cond_true, cond_false, Option.bind_some, Sum.elim_inr, hpr]
    · have h2 : (parseO s).1 = 2 ∧ (parseO s).2 = [] := by
        unfold parseO at hz ⊢
        split
        · rename_i hc; rw [if_pos hc] at hz; exact absurd rfl hz
        · exact ⟨rfl, rfl⟩
      simp [h2.1, h2.2]
  · have h3' : ((3000 : Int) < (s.length : Int)) := by omega
    simp only [h3', decide_true, cond_true, Option.bind_some]

theorem OversPrints_true (l : List Ov) : cellarerlaw10_OversPrints l = some true := by
  unfold cellarerlaw10_OversPrints
  rw [fewO_eq, awake10]
  cases hf : fewO l with
  | false => rfl
  | true =>
    obtain ⟨hsh, hl, hx⟩ := fewO_sh hf
    simp only [Option.bind_some, Bool.not_true, cond_false, printOv_eq l hsh, refPrintOv_eq l hsh, checkO_eq l hsh, refCheckO_eq l hsh, decide_true, Sum.elim_inr]
    by_cases hc : checkO l = 0
    · have hp := parse_print_O hc
      have hr := (checkO_zero hc).2
      have hlen := printO_len l hsh hr
      have hlin := lines_print hr
      have hq : overs_Parse (printO l) = some (0, l) := by
        rw [parseOv_eq (printO l) (.inr ⟨by rw [hlin]; simp; omega, fun y hy => ?_, by omega⟩), hp]
        rw [hlin] at hy
        obtain ⟨x, hxl, rfl⟩ := List.mem_map.mp hy
        have := textO_len (hr x hxl) (hsh.2 x hxl)
        have h300 := hx x hxl
        obtain ⟨_, m1, m2, m3⟩ := line_words x (hr x hxl)
        have ht : (textO x).length = (lineO x).length + 1 := by simp [textO]
        have hq : (lineO x).length ≤ 330 := by
          have h5 := hr x hxl
          unfold rightO at h5
          simp only [Bool.and_eq_true] at h5
          obtain ⟨h1, h2, h3, h4, h5, h6⟩ := metaR_iff h5.2
          have a1 := digI_len h3 h4
          have a2 := digI_len h5 h6
          have ol := octV_len x.2.1.toNat
          simp only [lineO, List.length_append, List.length_cons, List.length_nil]
          omega
        omega
      simp only [prnO, hc, if_true, decide_true, Bool.not_true, cond_false, hq, Option.bind_some, cond_true, List.drop_zero, osame_eq l l (by omega)]
    · simp [prnO, hc]

end Go.Cellar
