/- TrigsParses: the law. No condition. -/
import Derived.Test.YtjdjmbogopadaaaGreatDoorPl12p
set_option linter.unusedSimpArgs false
set_option linter.unusedVariables false
set_option maxRecDepth 8000
namespace Go.Cellar
open Go

theorem parseF_short (t : Int) (lines : List (List UInt8)) (k : Nat) (hk : k < lines.length) (ht : t = (lines.length : Int)) (hline : (lines.getD k []).length < 1000000) (hw : (pieces_S (lines.getD k []) []).length < 2) (out : List Fd) :
    trigs_ParseFired_b0 t lines ((k : Int), out) = some (.inr (.inl ())) := by
  unfold trigs_ParseFired_b0
  simp only [Prod.fst, Prod.snd]
  have hs : strings_Split (lines.getD k []) [32] = some (pieces_S (lines.getD k []) []) := by
    unfold strings_Split
    rw [genSplit_eq_S _ hline]
    rfl
  rw [ht, decide_eq_true (by omega), if_pos (by omega), if_pos (by rw [Int.toNat_natCast]; omega)]
  simp only [cond_true, Int.toNat_natCast, Nat.zero_add, hs, Option.bind_some]
  rw [decide_eq_true (show (((pieces_S (lines.getD k []) []).length : Nat) : Int) < 2 by omega)]
  rfl

theorem entryF_line {s : List UInt8} (h : 2 ≤ (pieces_S s []).length) : lineF (entryF (pieces_S s [])) = s := by
  have hj := pieces_join_S s []
  generalize pieces_S s [] = w at h hj
  rw [List.nil_append] at hj
  refine List.append_cancel_right (bs := [32]) ?_
  rw [← hj]
  unfold entryF
  match w, h with
  | p :: q :: r, _ =>
    by_cases hc : (p :: q :: r).getD 1 [] = [45] ∧ (p :: q :: r).length = 2
    · rw [if_pos hc]
      obtain ⟨h1, h2⟩ := hc
      have hq : q = [45] := h1
      have hr : r = [] := by simpa using h2
      subst hq hr
      exact flatS_join [[45]] p
    · rw [if_neg hc]
      exact flatS_join (q :: r) p

theorem entryF_small {s : List UInt8} (hs : s.length ≤ 3000) : (entryF (pieces_S s [])).1.length ≤ 3000 ∧ SmS (entryF (pieces_S s [])).2 := by
  have h1 := pieces_small_S s [] 3000 (by simpa using hs)
  have h2 := pieces_S_len s []
  have hne := List.length_pos_iff.mpr (pieces_ne_S s [])
  have h0 : ((pieces_S s []).getD 0 []).length ≤ 3000 := by
    refine h1 _ ?_
    rw [List.getD_eq_getElem?_getD, List.getElem?_eq_getElem hne]
    simp
  unfold entryF
  split
  · exact ⟨h0, by simp [SmS]⟩
  · refine ⟨h0, ?_, ?_⟩
    · show ((pieces_S s []).drop 1).length ≤ 10000
      rw [List.length_drop]; omega
    · intro p hp
      have := h1 p (List.mem_of_mem_drop hp)
      omega

theorem parseF_loop_any (lines : List (List UInt8)) (hlen : lines.length ≤ 9000) (hline : ∀ s ∈ lines, s.length ≤ 3000) : ∀ (r : List (List UInt8)) (k : Nat) (out : List Fd), lines.drop k = r → out.length ≤ k →
    iter (trigs_ParseFired_b0 (lines.length : Int) lines) ((k : Int), out) = some (.inl ()) ∨
    (iter (trigs_ParseFired_b0 (lines.length : Int) lines) ((k : Int), out) = some (.inr (out ++ r.map fun s => entryF (pieces_S s []))) ∧ ∀ s ∈ r, 2 ≤ (pieces_S s []).length) := by
  intro r
  induction r with
  | nil =>
    intro k out h ho
    have := drop_nil h
    right
    refine ⟨?_, by simp⟩
    rw [List.map_nil, List.append_nil]
    refine iter_inr ?_
    unfold trigs_ParseFired_b0
    simp only [Prod.fst, Prod.snd]
    rw [decide_eq_false (by omega)]
    rfl
  | cons s r ih =>
    intro k out h ho
    obtain ⟨g1, g2, g3⟩ := drop_cons h []
    have hm : s ∈ lines := List.mem_of_mem_drop (by rw [h]; simp)
    have hs := hline s hm
    have hwl := pieces_S_len s []
    by_cases hw : 2 ≤ (pieces_S s []).length
    · have hb := parseF_step (pieces_S s []) hw (by omega) (lines.length : Int) lines k g1 rfl (by omega) (by rw [g2]; omega) (by rw [g2]) out (by omega)
      rcases ih (k + 1) (out ++ [entryF (pieces_S s [])]) g3 (by simp; omega) with h1 | ⟨h1, h2⟩
      · left; rw [iter_inl hb, h1]
      · right
        refine ⟨by rw [iter_inl hb, h1]; simp, fun x hx => ?_⟩
        rcases List.mem_cons.mp hx with rfl | hx
        · exact hw
        · exact h2 x hx
    · left
      exact iter_inr (parseF_short (lines.length : Int) lines k g1 rfl (by rw [g2]; omega) (by rw [g2]; omega) out)

theorem parseF_sound (s : List UInt8) (hs : s.length ≤ 3000) : trigs_ParseFired s = some (2, []) ∨ ∃ l, trigs_ParseFired s = some (0, l) ∧ checkF l = 0 ∧ printF l = s ∧ SmF l := by
  obtain ⟨hsm, _⟩ := linesL_small s hs
  have hn := linesV_len s
  unfold trigs_ParseFired
  rw [lines_eq s (by omega)]
  simp only [Option.bind_some]
  by_cases hl : (linesV s).1 = true
  · rw [if_pos hl]
    have e : (((linesV s).2.length : Int) - ((0 : Nat) : Int)) = ((linesV s).2.length : Int) := by omega
    simp only [decide_true, Bool.not_true, cond_false]
    rcases parseF_loop_any (linesV s).2 (by omega) hsm _ 0 [] rfl (by simp) with h1 | ⟨h1, h2⟩
    · have h1' : iter (trigs_ParseFired_b0 (((linesV s).2.length : Int) - ((0 : Nat) : Int)) (linesV s).2) ((0 : Int), []) = some (.inl ()) := by rw [e]; exact h1
      rw [h1']
      exact .inl rfl
    · have h1' : iter (trigs_ParseFired_b0 (((linesV s).2.length : Int) - ((0 : Nat) : Int)) (linesV s).2) ((0 : Int), []) = some (.inr ((linesV s).2.map fun s => entryF (pieces_S s []))) := by
        rw [e]; exact h1
      have hm : ((linesV s).2.map fun s => entryF (pieces_S s [])).map lineF = (linesV s).2 := by
        rw [List.map_map]
        refine (List.map_congr_left fun x hx => ?_).trans (List.map_id _)
        exact entryF_line (h2 x hx)
      rw [h1']
      generalize hg : (linesV s).2.map (fun s => entryF (pieces_S s [])) = l at hm
      have hsh : SmF l := by
        subst hg
        refine ⟨by rw [List.length_map]; omega, fun x hx => ?_⟩
        obtain ⟨t, ht, rfl⟩ := List.mem_map.mp hx
        obtain ⟨q1, q2⟩ := entryF_small (hsm t ht)
        exact ⟨by omega, q2⟩
      simp only [Option.bind_some, Sum.elim_inr, List.drop_zero, checkF_eq l hsh]
      by_cases hc : checkF l = 0
      · right
        exact ⟨l, by simp [hc], hc, by rw [← printF_join, hm, lines_join hl], hsh⟩
      · left; simp [hc]
  · left
    rw [if_neg hl]
    rfl

theorem parseF_same (s : List UInt8) (hs : s.length ≤ 3000) : (trigs_ParseFired s = some (2, []) ∧ cellarerref12_ParseFired s = some (false, [])) ∨ ∃ l, trigs_ParseFired s = some (0, l) ∧ cellarerref12_ParseFired s = some (true, l) ∧ checkF l = 0 ∧ printF l = s ∧ SmF l := by
  rcases parseF_sound s hs with h1 | ⟨l, h1, hc, hp, hsh⟩
  · rcases refF_sound s hs with h2 | ⟨l, h2, hc, hp, hsh⟩
    · exact .inl ⟨h1, h2⟩
    · exfalso
      have := parse_printF hc hsh (by rw [hp]; omega)
      rw [hp, h1] at this
      simp at this
  · right
    have := refFired_print hc hsh (by rw [hp]; omega)
    rw [hp] at this
    exact ⟨l, h1, this, hc, hp, hsh⟩

theorem TrigsParses_true (s : List UInt8) : cellarerlaw12_TrigsParses s = some true := by
  unfold cellarerlaw12_TrigsParses
  rw [awake12]
  by_cases h : 3000 < s.length
  · rw [decide_eq_true (by omega)]; rfl
  · rw [decide_eq_false (by omega)]
    have hs : s.length ≤ 3000 := by omega
    have n0 : ShN [] := ⟨by simp, by simp⟩
    have f0 : SmF [] := ⟨by simp, by simp⟩
    have s0 := nsame_eq [] [] (by simp)
    have t0 := sameF_refl [] (by simp) (by simp)
    rcases parseN_same s hs with ⟨a1, a2⟩ | ⟨l, a1, a2, a3, a4, a5⟩
    · rcases parseF_same s hs with ⟨b1, b2⟩ | ⟨m, b1, b2, b3, b4, b5⟩
      · simp [a1, a2, b1, b2, s0, t0, printN_eq [] n0, printF_eq [] f0]
      · have t1 := sameF_refl m (by have := b5.1; omega) (fun x hx => by have := (b5.2 x hx).2.1; omega)
        simp [a1, a2, b1, b2, s0, t1, printN_eq [] n0, printF_eq m b5, prnF, b3, b4]
    · have s1 := nsame_eq l l (by have := a5.1; omega)
      rcases parseF_same s hs with ⟨b1, b2⟩ | ⟨m, b1, b2, b3, b4, b5⟩
      · simp [a1, a2, b1, b2, s1, t0, printN_eq l a5, printF_eq [] f0, prnN, a3, a4]
      · have t1 := sameF_refl m (by have := b5.1; omega) (fun x hx => by have := (b5.2 x hx).2.1; omega)
        simp [a1, a2, b1, b2, s1, t1, printN_eq l a5, printF_eq m b5, prnN, prnF, a3, a4, b3, b4]

end Go.Cellar
