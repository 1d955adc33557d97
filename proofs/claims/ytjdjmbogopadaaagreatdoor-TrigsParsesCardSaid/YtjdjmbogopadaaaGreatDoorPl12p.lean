/- The reference's parsers on any text. No condition. -/
import Derived.Test.YtjdjmbogopadaaaGreatDoorPl12n

set_option linter.unusedSimpArgs false
set_option linter.unusedVariables false
set_option maxRecDepth 8000
namespace Go.Cellar
open Go

theorem linesL_small (s : List UInt8) (hs : s.length ≤ 3000) : (∀ x ∈ (linesV s).2, x.length ≤ 3000) ∧ ∀ x ∈ (pieces_L s []).dropLast, x.length ≤ 3000 := by
  have hp : ∀ (t : List UInt8), t.length ≤ 3000 → ∀ x ∈ pieces_L t [], x.length ≤ 3000 := fun t ht => pieces_small t [] 3000 (by simpa using ht)
  refine ⟨?_, fun x hx => hp s hs x (List.dropLast_subset _ hx)⟩
  intro x hx
  unfold linesV at hx
  split at hx
  · cases hx
  · split at hx
    · exact hp _ (by simp; omega) x hx
    · cases hx

theorem pieces_small_V : ∀ (t acc : List UInt8) (n : Nat), acc.length + t.length ≤ n → ∀ x ∈ pieces t acc, x.length ≤ n := by
  intro t
  induction t with
  | nil =>
    intro acc n h x hx
    simp only [pieces, List.mem_singleton] at hx
    subst hx
    simpa using h
  | cons c r ih =>
    intro acc n h x hx
    simp only [List.length_cons] at h
    simp only [pieces] at hx
    split at hx
    · rcases List.mem_cons.mp hx with rfl | hx
      · omega
      · exact ih [] n (by simp; omega) x hx
    · exact ih (acc ++ [c]) n (by simp; omega) x hx

def SmallN (x : Nt) : Prop := x.1.length ≤ 3000 ∧ x.2.1.length ≤ 3000

theorem two {α : Type} {w : List α} (h : w.length = 2) : ∃ a b, w = [a, b] := by
  match w, h with
  | [a, b], _ => exact ⟨a, b, rfl⟩

theorem refStepN_any (lines : List (List UInt8)) (k : Nat) (hk : k < lines.length) (hlen : lines.length ≤ 10000) (hline : (lines.getD k []).length ≤ 3000) (out : List Nt) (ho : out.length ≤ 10000) :
    cellarerref12_Parse_b0 lines ((k : Int), out) = some (.inr (.inl ())) ∨ ∃ x, SmallN x ∧ cellarerref12_Parse_b0 lines ((k : Int), out) = some (.inl (((k + 1 : Nat) : Int), out ++ [x])) := by
  have hsm := pieces_small_S (lines.getD k []) [] 3000 (by simpa using hline)
  have hsp := refSplit_eq_S (lines.getD k []) (by omega)
  generalize hw : pieces_S (lines.getD k []) [] = w at hsm hsp
  by_cases h2 : w.length = 2
  · right
    obtain ⟨a, b, rfl⟩ := two h2
    have ha := hsm a (by simp)
    have hb := hsm b (by simp)
    have hvm := pieces_small_V b [] 3000 (by simpa using hb)
    have hvp := refSplit_eq_V b (by omega)
    have hvl := pieces_len b []
    generalize hq : pieces b [] = q at hvm hvp hvl
    have start : ∀ y : List UInt8 × Bool, ((
        bif Decidable.decide ((↑(List.length q) : Int) - (↑(0 : Nat) : Int) = (2 : Int)) then
          if (0 : Int) ≤ (1 : Int) ∧ (1 : Int) + (↑(0 : Nat) : Int) < (↑(List.length q) : Int) then
            if (1 : Nat) < List.length q then
              bif Decidable.decide (List.getD q (1 : Nat) [] = noaw) then
                if (0 : Int) ≤ (0 : Int) ∧ (0 : Int) + (↑(0 : Nat) : Int) < (↑(List.length q) : Int) then
                  if (0 : Nat) < List.length q then
                    some (List.getD q (0 : Nat) [], Bool.true)
                  else none
                else none
              else
                some (b, Bool.false)
            else none
          else none
        else
          some (b, Bool.false) : Option (List UInt8 × Bool)) = some y) → cellarerref12_Parse_b0 lines ((k : Int), out) = some (.inl (((k + 1 : Nat) : Int), out ++ [(a, y.1, y.2)])) := by
      intro y hy
      unfold cellarerref12_Parse_b0
      simp only [Prod.fst, Prod.snd]
      rw [decide_eq_true (by omega), if_pos (by omega), if_pos (by rw [Int.toNat_natCast]; omega)]
      simp only [cond_true, Int.toNat_natCast, Nat.zero_add, kplus hk (by omega)]
      rw [hsp]
      simp only [Option.bind_some]
      have g1 : List.getD [a, b] 1 [] = b := rfl
      have g0 : List.getD [a, b] 0 [] = a := rfl
      rw [g1, g0, decide_eq_true (show (((([a, b] : List (List UInt8)).length : Nat) : Int) - ((0 : Nat) : Int) = 2) by simp)]
      simp only [Bool.not_true, cond_false]
      rw [if_pos (by simp), if_pos (by simp), if_pos (by simp), if_pos (by simp), if_pos (by simp), if_pos (by simp), hvp]
      simp only [Option.bind_some]
      have hy' := hy
      unfold noaw at hy'
      rw [hy']
      simp only [Option.bind_some]
      rw [if_pos (by simp; omega)]
    by_cases q2 : q.length = 2
    · obtain ⟨c, d, rfl⟩ := two q2
      have hc := hvm c (by simp)
      by_cases hd : d = noaw
      · exact ⟨(a, c, true), ⟨ha, hc⟩, start (c, true) (by simp [hd])⟩
      · exact ⟨(a, b, false), ⟨ha, hb⟩, start (b, false) (by simp [hd])⟩
    · refine ⟨(a, b, false), ⟨ha, hb⟩, start (b, false) ?_⟩
      rw [decide_eq_false (by omega)]
      rfl
  · left
    unfold cellarerref12_Parse_b0
    simp only [Prod.fst, Prod.snd]
    rw [decide_eq_true (by omega), if_pos (by omega), if_pos (by rw [Int.toNat_natCast]; omega)]
    simp only [cond_true, Int.toNat_natCast, Nat.zero_add]
    rw [hsp]
    simp only [Option.bind_some]
    rw [decide_eq_false (by omega)]
    rfl

end Go.Cellar

/- The reference's parsers are sound. No condition. -/
set_option linter.unusedSimpArgs false
set_option linter.unusedVariables false
set_option maxRecDepth 8000
namespace Go.Cellar
open Go

theorem refN_loop_any (lines : List (List UInt8)) (hlen : lines.length ≤ 10000) (hline : ∀ s ∈ lines, s.length ≤ 3000) : ∀ (r : List (List UInt8)) (k : Nat) (out : List Nt), lines.drop k = r → out.length ≤ k → (∀ x ∈ out, SmallN x) →
    ∃ t, iter (cellarerref12_Parse_b0 lines) ((k : Int), out) = some t ∧ ∀ l, t = .inr l → l.length ≤ out.length + r.length ∧ ∀ x ∈ l, SmallN x := by
  intro r
  induction r with
  | nil =>
    intro k out h ho hs
    have := drop_nil h
    refine ⟨.inr out, iter_inr ?_, fun l hl => by cases hl; exact ⟨by simp, hs⟩⟩
    unfold cellarerref12_Parse_b0
    simp only [Prod.fst, Prod.snd]
    rw [decide_eq_false (by omega)]
    rfl
  | cons s r ih =>
    intro k out h ho hs
    obtain ⟨g1, g2, g3⟩ := drop_cons h []
    have hm : s ∈ lines := List.mem_of_mem_drop (by rw [h]; simp)
    rcases refStepN_any lines k g1 hlen (by rw [g2]; exact hline s hm) out (by omega) with hb | ⟨x, hx, hb⟩
    · exact ⟨.inl (), iter_inr hb, fun l hl => by cases hl⟩
    · obtain ⟨t, h1, h2⟩ := ih (k + 1) (out ++ [x]) g3 (by simp; omega) (fun y hy => by
        rcases List.mem_append.mp hy with hy | hy
        · exact hs y hy
        · simp only [List.mem_singleton] at hy; subst hy; exact hx)
      refine ⟨t, by rw [iter_inl hb]; exact h1, fun l hl => ?_⟩
      obtain ⟨h3, h4⟩ := h2 l hl
      refine ⟨?_, h4⟩
      simp only [List.length_append, List.length_cons, List.length_nil] at h3 ⊢
      omega

/-- WHAT THE REFERENCE ANSWERS is nothing, or what prints as the text. -/
theorem refN_sound (s : List UInt8) (hs : s.length ≤ 3000) : cellarerref12_Parse s = some (false, []) ∨ ∃ l, cellarerref12_Parse s = some (true, l) ∧ checkN l = 0 ∧ printN l = s ∧ ShN l := by
  obtain ⟨e1, e2⟩ := refLines_eq s (by omega)
  obtain ⟨_, hsm⟩ := linesL_small s hs
  have hn := pieces_L_len s []
  have hn2 : (pieces_L s []).dropLast.length ≤ 10000 := by rw [List.length_dropLast]; omega
  obtain ⟨t, h1, h2⟩ := refN_loop_any (pieces_L s []).dropLast hn2 hsm _ 0 [] rfl (by simp) (by simp)
  have h1' : iter (cellarerref12_Parse_b0 (pieces_L s []).dropLast) ((0 : Int), []) = some t := h1
  unfold cellarerref12_Parse
  rw [e1]
  simp only [Option.bind_some]
  rw [h1']
  cases t with
  | inl u => left; rfl
  | inr l =>
    obtain ⟨h3, h4⟩ := h2 l rfl
    have hsh : ShN l := ⟨by rw [List.drop_zero] at h3; simp only [List.length_nil] at h3; omega, fun x hx => by have := h4 x hx; unfold SmallN at this; omega⟩
    simp only [Option.bind_some, Sum.elim_inr, List.drop_zero, refPrintN_eq l hsh]
    by_cases hl : (linesV s).1 = true
    · by_cases hc : checkN l = 0
      · by_cases hp : printN l = s
        · right
          refine ⟨l, ?_, hc, hp, hsh⟩
          simp [hl, prnN, hc, hp]
        · left
          simp [hl, prnN, hc, hp]
      · left
        simp [hl, prnN, hc]
    · left
      have : (linesV s).1 = false := by simpa using hl
      rw [this]
      rfl

theorem rentF_small {s : List UInt8} (hs : s.length ≤ 3000) : (rentF (pieces_S s [])).1.length ≤ 3000 ∧ SmS (rentF (pieces_S s [])).2 := by
  have h1 := pieces_small_S s [] 3000 (by simpa using hs)
  have h2 := pieces_S_len s []
  have hne := List.length_pos_iff.mpr (pieces_ne_S s [])
  unfold rentF
  refine ⟨?_, ?_, ?_⟩
  · refine h1 _ ?_
    rw [List.getD_eq_getElem?_getD, List.getElem?_eq_getElem hne]
    simp
  · have := List.length_filter_le (fun p => !decide (p = [45])) ((pieces_S s []).drop 1)
    rw [List.length_drop] at this
    show (((pieces_S s []).drop 1).filter fun p => !decide (p = [45])).length ≤ 10000
    omega
  · intro p hp
    have := h1 p (List.mem_of_mem_drop (List.mem_filter.mp hp).1)
    omega

theorem refF_sound (s : List UInt8) (hs : s.length ≤ 3000) : cellarerref12_ParseFired s = some (false, []) ∨ ∃ l, cellarerref12_ParseFired s = some (true, l) ∧ checkF l = 0 ∧ printF l = s ∧ SmF l := by
  obtain ⟨e1, e2⟩ := refLines_eq s (by omega)
  obtain ⟨_, hsm⟩ := linesL_small s hs
  have hn := pieces_L_len s []
  have hn2 : (pieces_L s []).dropLast.length ≤ 10000 := by rw [List.length_dropLast]; omega
  have h1 : iter (cellarerref12_ParseFired_b1 (pieces_L s []).dropLast) ((0 : Int), []) = _ := refFired_loop (pieces_L s []).dropLast hn2 (fun x hx => by have := hsm x hx; omega) _ 0 [] rfl (by simp)
  unfold cellarerref12_ParseFired
  rw [e1]
  simp only [Option.bind_some]
  rw [h1]
  simp only [Option.bind_some, List.nil_append, List.drop_zero]
  generalize hg : (pieces_L s []).dropLast.map (fun s => rentF (pieces_S s [])) = l
  have hsh : SmF l := by
    subst hg
    refine ⟨by rw [List.length_map]; exact hn2, fun x hx => ?_⟩
    obtain ⟨t, ht, rfl⟩ := List.mem_map.mp hx
    obtain ⟨q1, q2⟩ := rentF_small (hsm t ht)
    exact ⟨by omega, q2⟩
  rw [refPrintF_eq l hsh]
  by_cases hl : (linesV s).1 = true
  · by_cases hc : checkF l = 0
    · by_cases hp : printF l = s
      · right
        refine ⟨l, ?_, hc, hp, hsh⟩
        simp [hl, prnF, hc, hp]
      · left
        simp [hl, prnF, hc, hp]
    · left
      simp [hl, prnF, hc]
  · left
    have : (linesV s).1 = false := by simpa using hl
    rw [this]
    rfl

end Go.Cellar

/- The parsers on any text: sound. No condition. -/
set_option linter.unusedSimpArgs false
set_option linter.unusedVariables false
set_option maxRecDepth 8000
namespace Go.Cellar
open Go

theorem refFired_print {l : List Fd} (hc : checkF l = 0) (hsh : SmF l) (hlen : (printF l).length < 9000) : cellarerref12_ParseFired (printF l) = some (true, l) := by
  obtain ⟨h64, hok⟩ := checkF_zero hc
  have e : cellarerref06_Lines (printF l) = some (true, l.map lineF) := by
    rw [← printF_join] at hlen ⊢
    exact refLines_join (fun s hs => by
      obtain ⟨x, hx, rfl⟩ := List.mem_map.mp hs
      exact lineF_no (hok x hx)) (by omega)
  have hsmall : ∀ s ∈ l.map lineF, s.length ≤ 9000 := by
    intro s hs
    obtain ⟨x, hx, rfl⟩ := List.mem_map.mp hs
    have h1 : (textF x).length ≤ (printF l).length := by
      obtain ⟨a, b, rfl⟩ := List.append_of_mem hx
      simp only [printF, List.flatMap_append, List.flatMap_cons, List.length_append]
      omega
    unfold textF at h1
    rw [List.length_append] at h1
    omega
  have h1 : iter (cellarerref12_ParseFired_b1 (l.map lineF)) ((0 : Int), []) = _ := refFired_loop (l.map lineF) (by rw [List.length_map]; exact hsh.1) hsmall _ 0 [] rfl (by simp)
  have h2 : (l.map lineF).map (fun s => rentF (pieces_S s [])) = l := by
    rw [List.map_map]
    refine (List.map_congr_left fun x hx => ?_).trans (List.map_id l)
    show rentF (pieces_S (lineF x) []) = x
    rw [lineF_words (hok x hx), rentF_ok (hok x hx)]
  unfold cellarerref12_ParseFired
  rw [e]
  simp only [Option.bind_some]
  rw [h1]
  simp only [Option.bind_some, List.nil_append, List.drop_zero, h2]
  rw [refPrintF_eq l hsh]
  simp [prnF, hc]

/-! ### cut, in general -/

theorem cut_no (s : List UInt8) (h : ∀ c ∈ s, c ≠ 32) (hl : s.length < 1000000) : strings_Cut s [32] = some (s, [], false) := by
  have hi : Lib.index s [32] = -1 := by
    have h1 := lidx 32 s 0
    have h2 := idx_none 32 s 0 fun x hx e => h x hx (UInt8.toNat_inj.mp (by have : (32 : UInt8).toNat = 32 := rfl; omega))
    have h3 : idxByte ((32 : UInt8).toNat : Int) s ((0 : Nat) : Int) = idxByte 32 s 0 := rfl
    rw [h3, h2] at h1
    by_cases hm : Lib.index s [32] = -1
    · exact hm
    · rw [if_neg hm] at h1
      omega
  unfold strings_Cut stringslite_Cut stringslite_Index
  rw [if_pos (by omega), hi]
  rfl

theorem cut_any (s : List UInt8) (hl : s.length < 1000000) : (∃ a b, s = a ++ 32 :: b ∧ strings_Cut s [32] = some (a, b, true)) ∨ strings_Cut s [32] = some (s, [], false) := by
  by_cases h : (32 : UInt8) ∈ s
  · obtain ⟨a, b, rfl, hn⟩ := List.eq_append_cons_of_mem h
    exact .inl ⟨a, b, rfl, cut_at a b (fun x hx e => hn (e ▸ hx)) hl⟩
  · exact .inr (cut_no s (fun c hc e => h (e ▸ hc)) hl)

theorem cutSuf_any (p : List UInt8) (hl : p.length < 900000) : (∃ q, p = q ++ markN ∧ strings_CutSuffix p markN = some (q, true)) ∨ strings_CutSuffix p markN = some (p, false) := by
  have hm : markN.length = 8 := rfl
  by_cases h8 : markN.length ≤ p.length
  · by_cases he : p.drop (p.length - markN.length) = markN
    · left
      refine ⟨p.take (p.length - markN.length), ?_, ?_⟩
      · conv => lhs; rw [← List.take_append_drop (p.length - markN.length) p, he]
      · have := cutSuf_yes (p.take (p.length - markN.length)) (by rw [List.length_take]; omega)
        have e2 : p.take (p.length - markN.length) ++ markN = p := by
          conv => rhs; rw [← List.take_append_drop (p.length - markN.length) p, he]
        rwa [e2] at this
    · right
      unfold strings_CutSuffix stringslite_CutSuffix stringslite_HasSuffix
      have e1 : IntKind.wrap IntKind.i64 ((p.length : Int) - (markN.length : Int)) = ((p.length - markN.length : Nat) : Int) := by
        rw [w64 (by omega) (by omega)]; omega
      rw [e1, decide_eq_true (by omega), if_pos ⟨by omega, by omega, by omega⟩]
      simp only [cond_true, Option.bind_some, Int.toNat_natCast, List.take_length, decide_eq_false he, Bool.not_false]
  · right
    unfold strings_CutSuffix stringslite_CutSuffix stringslite_HasSuffix
    rw [decide_eq_false (by omega)]
    rfl

/-- What a line comes to: small, and its text where there is a package. -/
def EntN (s : List UInt8) (x : Nt) : Prop := SmallN x ∧ (x.2.1 ≠ [] → lineN x = s)

theorem stepN_any (t : Int) (lines : List (List UInt8)) (k : Nat) (hk : k < lines.length) (ht : t = (lines.length : Int)) (hlen : lines.length ≤ 10000) (hline : (lines.getD k []).length ≤ 3000) (out : List Nt) (ho : out.length ≤ 10000) :
    ∃ x, EntN (lines.getD k []) x ∧ trigs_Parse_b0 t lines ((k : Int), out) = some (.inl (((k + 1 : Nat) : Int), out ++ [x])) := by
  have main : ∀ (a : List UInt8 × List UInt8 × Bool) (b : List UInt8 × Bool), strings_Cut (lines.getD k []) [32] = some a → strings_CutSuffix a.2.1 markN = some b →
      trigs_Parse_b0 t lines ((k : Int), out) = some (.inl (((k + 1 : Nat) : Int), out ++ [(a.1, b.1, b.2)])) := by
    intro a b ha hb
    unfold trigs_Parse_b0
    simp only [Prod.fst, Prod.snd]
    rw [ht, decide_eq_true (by omega), if_pos (by omega), if_pos (by rw [Int.toNat_natCast]; omega)]
    simp only [cond_true, Int.toNat_natCast, Nat.zero_add, kplus hk (by omega), ha, Option.bind_some]
    have hb3 : strings_CutSuffix a.2.1 [47, 110, 111, 97, 119, 97, 105, 116] = some b := hb
    rw [hb3]
    simp only [Option.bind_some]
    rw [if_pos (by simp; omega)]
  generalize lines.getD k [] = s at *
  rcases cut_any s (by omega) with ⟨a, b, rfl, hc⟩ | hc
  · simp only [List.length_append, List.length_cons] at hline
    rcases cutSuf_any b (by omega) with ⟨q, rfl, hs⟩ | hs
    · refine ⟨(a, q, true), ⟨⟨by show a.length ≤ 3000; omega, by show q.length ≤ 3000; rw [List.length_append] at hline; omega⟩, fun _ => ?_⟩, main _ _ hc hs⟩
      simp [lineN, packN]
    · refine ⟨(a, b, false), ⟨⟨by show a.length ≤ 3000; omega, by show b.length ≤ 3000; omega⟩, fun _ => ?_⟩, main _ _ hc hs⟩
      simp [lineN, packN]
  · have hs : strings_CutSuffix [] markN = some ([], false) := by
      rcases cutSuf_any [] (by simp) with ⟨q, e, _⟩ | h
      · have := congrArg List.length e
        simp [markN] at this
      · exact h
    exact ⟨(s, [], false), ⟨⟨hline, by simp⟩, fun h => absurd rfl h⟩, main _ _ hc hs⟩

end Go.Cellar

/- TrigsParses. No condition. -/
set_option linter.unusedSimpArgs false
set_option linter.unusedVariables false
set_option maxRecDepth 8000
namespace Go.Cellar
open Go

theorem parseN_loop_any (lines : List (List UInt8)) (hlen : lines.length ≤ 10000) (hline : ∀ s ∈ lines, s.length ≤ 3000) : ∀ (r : List (List UInt8)) (k : Nat) (out : List Nt), lines.drop k = r → out.length ≤ k →
    ∃ l, iter (trigs_Parse_b0 (lines.length : Int) lines) ((k : Int), out) = some (out ++ l) ∧ l.length = r.length ∧ (∀ x ∈ l, SmallN x) ∧ ((∀ x ∈ l, x.2.1 ≠ []) → l.map lineN = r) := by
  intro r
  induction r with
  | nil =>
    intro k out h ho
    have := drop_nil h
    refine ⟨[], ?_, rfl, by simp, fun _ => rfl⟩
    rw [List.append_nil]
    refine iter_inr ?_
    unfold trigs_Parse_b0
    simp only [Prod.fst, Prod.snd]
    rw [decide_eq_false (by omega)]
    rfl
  | cons s r ih =>
    intro k out h ho
    obtain ⟨g1, g2, g3⟩ := drop_cons h []
    have hm : s ∈ lines := List.mem_of_mem_drop (by rw [h]; simp)
    obtain ⟨x, hx, hb⟩ := stepN_any (lines.length : Int) lines k g1 rfl hlen (by rw [g2]; exact hline s hm) out (by omega)
    rw [g2] at hx
    obtain ⟨l, h1, h2, h3, h4⟩ := ih (k + 1) (out ++ [x]) g3 (by simp; omega)
    refine ⟨x :: l, ?_, by simp [h2], ?_, fun hne => ?_⟩
    · rw [iter_inl hb, h1]; simp
    · intro y hy
      rcases List.mem_cons.mp hy with rfl | hy
      · exact hx.1
      · exact h3 y hy
    · rw [List.map_cons, hx.2 (hne x List.mem_cons_self), h4 fun y hy => hne y (List.mem_cons_of_mem _ hy)]

theorem parseN_sound (s : List UInt8) (hs : s.length ≤ 3000) : trigs_Parse s = some (2, []) ∨ ∃ l, trigs_Parse s = some (0, l) ∧ checkN l = 0 ∧ printN l = s ∧ ShN l := by
  obtain ⟨hsm, _⟩ := linesL_small s hs
  have hn := linesV_len s
  unfold trigs_Parse
  rw [lines_eq s (by omega)]
  simp only [Option.bind_some]
  by_cases hl : (linesV s).1 = true
  · rw [if_pos hl]
    obtain ⟨l, h1, h2, h3, h4⟩ := parseN_loop_any (linesV s).2 (by omega) hsm _ 0 [] rfl (by simp)
    have h1' : iter (trigs_Parse_b0 (((linesV s).2.length : Int) - ((0 : Nat) : Int)) (linesV s).2) ((0 : Int), []) = some ([] ++ l) := by
      rw [show (((linesV s).2.length : Int) - ((0 : Nat) : Int)) = ((linesV s).2.length : Int) by omega]; exact h1
    have hsh : ShN l := ⟨by rw [List.drop_zero] at h2; omega, fun x hx => by have := h3 x hx; unfold SmallN at this; omega⟩
    simp only [decide_true, Bool.not_true, cond_false]
    rw [h1']
    simp only [Option.bind_some, List.nil_append, List.drop_zero, checkN_eq l hsh]
    by_cases hc : checkN l = 0
    · right
      refine ⟨l, by simp [hc], hc, ?_, hsh⟩
      have hok := (checkN_zero hc).2
      have hm := h4 fun x hx e => by
        have := (hok x hx).2
        rw [e] at this
        revert this
        decide
      rw [List.drop_zero] at hm
      rw [← printN_join, hm, lines_join hl]
    · left; simp [hc]
  · left
    rw [if_neg hl]
    rfl

theorem parseN_same (s : List UInt8) (hs : s.length ≤ 3000) : (trigs_Parse s = some (2, []) ∧ cellarerref12_Parse s = some (false, [])) ∨ ∃ l, trigs_Parse s = some (0, l) ∧ cellarerref12_Parse s = some (true, l) ∧ checkN l = 0 ∧ printN l = s ∧ ShN l := by
  rcases parseN_sound s hs with h1 | ⟨l, h1, hc, hp, hsh⟩
  · rcases refN_sound s hs with h2 | ⟨l, h2, hc, hp, hsh⟩
    · exact .inl ⟨h1, h2⟩
    · exfalso
      have := parse_print hc hsh (by rw [hp]; omega)
      rw [hp, h1] at this
      simp at this
  · right
    have := refParse_print hc hsh (by rw [hp]; omega)
    rw [hp] at this
    exact ⟨l, h1, this, hc, hp, hsh⟩

end Go.Cellar
