/- Diversions: the text, parsed; and the four laws. No condition. -/
import Derived.Test.YtlhpgbaclbkjiaaDoorPl9f
set_option linter.unusedSimpArgs false
set_option linter.unusedVariables false
set_option maxRecDepth 4000
namespace Go.Cellar
open Go

def triples : List (List UInt8) → List Dv
  | a :: b :: c :: r => (a, b, if c = [58] then [] else c) :: triples r
  | _ => []

def noEmpty : List (List UInt8) → Bool
  | _ :: _ :: c :: r => !decide (c = []) && noEmpty r
  | _ => true

def goodL (l : List (List UInt8)) : Bool := decide (l.length % 3 = 0) && noEmpty l

theorem e3i {i n : Nat} (h : 3 * i < n) (hn : n < 1000000) : IntKind.wrap IntKind.i64 ((3 : Int) * (i : Int)) = ((3 * i : Nat) : Int) := by rw [w64 (by omega) (by omega)]; omega
theorem ej {j n c : Nat} (h : j < n) (hn : n < 1000000) (hc : c < 10) : IntKind.wrap IntKind.i64 ((j : Int) + (c : Int)) = ((j + c : Nat) : Int) := by rw [w64 (by omega) (by omega)]; omega
theorem c1' : ((1 : Nat) : Int) = 1 := rfl
theorem c2' : ((2 : Nat) : Int) = 2 := rfl
theorem c3' : ((3 : Nat) : Int) = 3 := rfl
theorem ej1 {j n : Nat} (h : j < n) (hn : n < 1000000) : IntKind.wrap IntKind.i64 ((j : Int) + 1) = ((j + 1 : Nat) : Int) := ej h hn (c := 1) (by omega)
theorem ej2 {j n : Nat} (h : j < n) (hn : n < 1000000) : IntKind.wrap IntKind.i64 ((j : Int) + 2) = ((j + 2 : Nat) : Int) := ej h hn (c := 2) (by omega)
theorem ej3 {j n : Nat} (h : j < n) (hn : n < 1000000) : IntKind.wrap IntKind.i64 ((j : Int) + 3) = ((j + 3 : Nat) : Int) := ej h hn (c := 3) (by omega)

theorem parse_loop (L : List (List UInt8)) (hL : L.length < 1000000) : ∀ (r : List (List UInt8)) (i : Nat) (out : List Dv), L.drop (3 * i) = r → 3 * i + r.length = L.length → out.length ≤ i →
    iter (divs_Parse_b0 ((L.length / 3 : Nat) : Int) L) ((i : Int), out) = some (if noEmpty r = true then .inr (out ++ triples r) else .inl ())
  | [], i, out, h, hl, ho => by
    simp only [List.length_nil] at hl
    rw [iter_inr (t := .inr out)]
    · simp [noEmpty, triples]
    · unfold divs_Parse_b0
      simp only [natlt, show ¬ i < L.length / 3 by omega, decide_false, cond_false]
  | [a], i, out, h, hl, ho => by
    simp only [List.length_nil, List.length_cons] at hl
    rw [iter_inr (t := .inr out)]
    · simp [noEmpty, triples]
    · unfold divs_Parse_b0
      simp only [natlt, show ¬ i < L.length / 3 by omega, decide_false, cond_false]
  | [a, b], i, out, h, hl, ho => by
    simp only [List.length_nil, List.length_cons] at hl
    rw [iter_inr (t := .inr out)]
    · simp [noEmpty, triples]
    · unfold divs_Parse_b0
      simp only [natlt, show ¬ i < L.length / 3 by omega, decide_false, cond_false]
  | a :: b :: c :: r, i, out, h, hl, ho => by
    simp only [List.length_cons] at hl
    obtain ⟨g1, g2, g3⟩ := drop_cons h []
    obtain ⟨q1, q2, q3⟩ := drop_cons g3 []
    obtain ⟨p1, p2, p3⟩ := drop_cons q3 []
    have hb : divs_Parse_b0 ((L.length / 3 : Nat) : Int) L ((i : Int), out) = some (if c = [] then .inr (.inl ()) else .inl (((i + 1 : Nat) : Int), out ++ [(a, b, if c = [58] then [] else c)])) := by
      unfold divs_Parse_b0
      simp only [natlt, show i < L.length / 3 by omega, decide_true, cond_true, e3i g1 hL, ej1 g1 hL, ej2 g1 hL, c0, Int.add_zero, Int.natCast_nonneg, true_and, Int.toNat_natCast, Nat.zero_add, g1, q1, p1, if_true, g2, q2, kplus (show i < L.length by omega) (by omega)]
      have p1' : 3 * i + 2 < L.length := p1
      have p2' : L.getD (3 * i + 2) [] = c := p2
      simp only [p1', if_true, p2']
      by_cases hc : c = []
      · simp [hc]
      · by_cases hc2 : c = [58]
        · simp only [hc2, List.drop_zero, List.length_cons, List.length_nil, decide_true, cond_true, if_true, show ¬ ([58] : List UInt8) = [] by simp, decide_false, cond_false, if_false, Option.bind_some, Sum.elim_inr]
          rw [if_pos (by omega)]
        · simp only [hc, hc2, List.drop_zero, List.length_cons, List.length_nil, decide_false, cond_false, if_false, Option.bind_some, Sum.elim_inr]
          rw [if_pos (by omega)]
    by_cases hc : c = []
    · rw [if_pos hc] at hb
      rw [iter_inr hb]
      simp [noEmpty, hc]
    · rw [if_neg hc] at hb
      rw [iter_inl hb, parse_loop L hL r (i + 1) _ (by rw [show 3 * (i + 1) = 3 * i + 1 + 1 + 1 by omega]; exact p3) (by omega) (by simp; omega)]
      simp only [noEmpty, hc, decide_false, Bool.not_false, Bool.true_and, triples]
      simp

theorem refParse_loop (L : List (List UInt8)) (hL : L.length < 900005) : ∀ (r : List (List UInt8)) (i : Nat) (out : List Dv), L.drop (3 * i) = r → 3 * i + r.length = L.length → out.length ≤ i →
    iter (cellarerref09_Parse_b0 L) (((3 * i : Nat) : Int), out) = some (out ++ triples r)
  | [], i, out, h, hl, ho => by
    simp only [List.length_nil] at hl
    rw [iter_inr (t := out)]
    · simp [triples]
    · unfold cellarerref09_Parse_b0
      simp only [ej2 (show 3 * i < L.length + 1 by omega) (by omega), c0, Int.sub_zero, natlt, show ¬ 3 * i + 2 < L.length by omega, decide_false, cond_false]
  | [a], i, out, h, hl, ho => by
    simp only [List.length_nil, List.length_cons] at hl
    rw [iter_inr (t := out)]
    · simp [triples]
    · unfold cellarerref09_Parse_b0
      simp only [ej2 (show 3 * i < L.length + 1 by omega) (by omega), c0, Int.sub_zero, natlt, show ¬ 3 * i + 2 < L.length by omega, decide_false, cond_false]
  | [a, b], i, out, h, hl, ho => by
    simp only [List.length_nil, List.length_cons] at hl
    rw [iter_inr (t := out)]
    · simp [triples]
    · unfold cellarerref09_Parse_b0
      simp only [ej2 (show 3 * i < L.length + 1 by omega) (by omega), c0, Int.sub_zero, natlt, show ¬ 3 * i + 2 < L.length by omega, decide_false, cond_false]
  | a :: b :: c :: r, i, out, h, hl, ho => by
    simp only [List.length_cons] at hl
    obtain ⟨g1, g2, g3⟩ := drop_cons h []
    obtain ⟨q1, q2, q3⟩ := drop_cons g3 []
    obtain ⟨p1, p2, p3⟩ := drop_cons q3 []
    have p1' : 3 * i + 2 < L.length := p1
    have p2' : L.getD (3 * i + 2) [] = c := p2
    have hb : cellarerref09_Parse_b0 L (((3 * i : Nat) : Int), out) = some (.inl (((3 * (i + 1) : Nat) : Int), out ++ [(a, b, if c = [58] then [] else c)])) := by
      unfold cellarerref09_Parse_b0
      simp only [ej1 g1 (show L.length < 1000000 by omega), ej2 g1 (show L.length < 1000000 by omega), ej3 g1 (show L.length < 1000000 by omega), c0, Int.add_zero, Int.sub_zero, natlt, p1', decide_true, cond_true, Int.natCast_nonneg, true_and, Int.toNat_natCast, Nat.zero_add, g1, q1, if_true, g2, q2, p2']
      by_cases hc2 : c = [58]
      · simp only [hc2, List.drop_zero, List.length_cons, List.length_nil, decide_true, Bool.not_true, cond_false, if_true, Option.bind_some]
        rw [if_pos (by omega)]
        rfl
      · simp only [hc2, List.drop_zero, List.length_cons, List.length_nil, decide_false, Bool.not_false, cond_true, if_false, Option.bind_some]
        rw [if_pos (by omega)]
        rfl
    rw [iter_inl hb, refParse_loop L hL r (i + 1) _ (by rw [show 3 * (i + 1) = 3 * i + 1 + 1 + 1 by omega]; exact p3) (by omega) (by simp; omega)]
    simp [triples]

def parseV (s : List UInt8) : Int × List Dv :=
  if (linesV s).1 = true ∧ goodL (linesV s).2 = true ∧ checkV (triples (linesV s).2) = 0 then (0, triples (linesV s).2) else (2, [])

theorem linesV_len (s : List UInt8) : (linesV s).2.length ≤ s.length + 1 := by
  unfold linesV
  split
  · simp
  · split
    · have := pieces_L_len s.dropLast []
      rw [List.length_dropLast] at this
      simp only
      omega
    · simp

theorem parse_eq (s : List UInt8) (hs : s.length < 900000) (hsh : ShL (triples (linesV s).2)) : divs_Parse s = some (parseV s) := by
  unfold divs_Parse parseV
  rw [lines_eq s (by omega)]
  have hlen := linesV_len s
  generalize linesV s = q at hsh hlen ⊢
  obtain ⟨ok, L⟩ := q
  dsimp only at hsh hlen ⊢
  cases ok with
  | false => simp
  | true =>
    have em : Int.tmod ((L.length : Int) - ((0 : Nat) : Int)) 3 = ((L.length % 3 : Nat) : Int) := by
      rw [Int.tmod_eq_emod_of_nonneg (by omega)]; omega
    have ed : IntKind.wrap IntKind.i64 (Int.tdiv ((L.length : Int) - ((0 : Nat) : Int)) 3) = ((L.length / 3 : Nat) : Int) := by
      rw [Int.tdiv_eq_ediv_of_nonneg (by omega), w64 (by omega) (by omega)]; omega
    simp only [Option.bind_some, if_true, decide_true, Bool.not_true, cond_false, em, ed, ie0, true_and]
    unfold goodL
    by_cases hm : L.length % 3 = 0
    · have h : iter (divs_Parse_b0 ((L.length / 3 : Nat) : Int) L) ((0 : Int), ([] : List Dv)) = some (if noEmpty L = true then .inr ([] ++ triples L) else .inl ()) := parse_loop L (by omega) L 0 [] rfl (by simp) (by simp)
      simp only [hm, decide_true, Bool.not_true, cond_false, Option.bind_some, Sum.elim_inr, h, Bool.true_and]
      cases hn : noEmpty L
      · simp
      · simp only [if_true, List.nil_append, Option.bind_some, Sum.elim_inr, List.drop_zero, check_eq _ hsh, true_and]
        by_cases hc : checkV (triples L) = 0
        · simp [hc]
        · simp [hc]
    · simp [hm]

def rparseV (s : List UInt8) : Bool × List Dv :=
  if (linesV s).1 = true ∧ checkV (triples (linesV s).2) = 0 ∧ printV (triples (linesV s).2) = s then (true, triples (linesV s).2) else (false, [])

theorem refParse_eq (s : List UInt8) (hs : s.length < 900000) (hsh : ShL (triples (pieces_L s []).dropLast)) : cellarerref09_Parse s = some (rparseV s) := by
  unfold cellarerref09_Parse rparseV
  obtain ⟨h1, h2⟩ := refLines_eq s (by omega)
  rw [h1]
  have hlen := pieces_L_len s []
  have h : iter (cellarerref09_Parse_b0 (pieces_L s []).dropLast) ((0 : Int), ([] : List Dv)) = some ([] ++ triples (pieces_L s []).dropLast) := refParse_loop (pieces_L s []).dropLast (by rw [List.length_dropLast]; omega) _ 0 [] rfl (by simp) (by simp)
  simp only [Option.bind_some, h, List.nil_append, List.drop_zero, refPrint_eq _ hsh]
  cases hok : (linesV s).1 with
  | false => simp
  | true =>
    rw [h2 hok]
    unfold prnV
    by_cases hc : checkV (triples (pieces_L s []).dropLast) = 0
    · by_cases hp : printV (triples (pieces_L s []).dropLast) = s
      · simp [hc, hp]
      · simp [hc, hp]
    · simp [hc]

/-! ### there and back -/

def joinL (l : List (List UInt8)) : List UInt8 := l.flatMap fun x => x ++ [10]

theorem pieces_join : ∀ (t acc : List UInt8), joinL (pieces_L t acc) = acc ++ t ++ [10] := by
  intro t
  induction t with
  | nil => intro acc; simp [pieces_L, joinL]
  | cons c r ih =>
    intro acc
    simp only [pieces_L]
    split
    · rename_i hc
      subst hc
      have := ih []
      simp only [joinL, List.flatMap_cons] at this ⊢
      rw [this]
      simp
    · rw [ih]; simp

theorem lines_join {s : List UInt8} (h : (linesV s).1 = true) : joinL (linesV s).2 = s := by
  unfold linesV at h ⊢
  by_cases h0 : s = []
  · subst h0; rfl
  · by_cases he : endsSl_L s = true
    · simp only [h0, he, if_false, if_true, pieces_join, List.nil_append]
      exact (dropLast_ends he).symm
    · simp [h0, he] at h

theorem good_print : ∀ (L : List (List UInt8)), goodL L = true ↔ printV (triples L) = joinL L
  | [] => by simp [goodL, noEmpty, triples, printV, joinL]
  | [a] => by simp [goodL, noEmpty, triples, printV, joinL]
  | [a, b] => by simp [goodL, noEmpty, triples, printV, joinL]
  | a :: b :: c :: r => by
    have ih := good_print r
    have hg : goodL (a :: b :: c :: r) = (!decide (c = []) && goodL r) := by
      unfold goodL
      have : (a :: b :: c :: r).length % 3 = r.length % 3 := by simp only [List.length_cons]; omega
      rw [this]
      simp only [noEmpty]
      cases decide (c = []) <;> cases decide (r.length % 3 = 0) <;> simp
    have hp : printV (triples (a :: b :: c :: r)) = a ++ [10] ++ b ++ [10] ++ (byV (if c = [58] then [] else c) ++ [10] ++ printV (triples r)) := by
      simp [triples, printV, textV]
    have hj : joinL (a :: b :: c :: r) = a ++ [10] ++ b ++ [10] ++ (c ++ [10] ++ joinL r) := by
      simp [joinL]
    rw [hg, hp, hj, List.append_right_inj]
    by_cases hc : c = []
    · subst hc
      simp [byV]
    · have hby : byV (if c = [58] then [] else c) = c := by
        unfold byV
        by_cases h58 : c = [58]
        · simp [h58]
        · simp [h58, hc]
      rw [hby, List.append_right_inj, ← ih]
      simp [hc]

theorem parse_same (s : List UInt8) : ((rparseV s).1 = decide ((parseV s).1 = 0)) ∧ (rparseV s).2 = (parseV s).2 := by
  unfold rparseV parseV
  cases hok : (linesV s).1 with
  | false => simp
  | true =>
    have hg := good_print (linesV s).2
    rw [lines_join hok] at hg
    by_cases hc : checkV (triples (linesV s).2) = 0
    · by_cases hp : printV (triples (linesV s).2) = s
      · simp [hc, hp, hg.mpr hp]
      · have : ¬ goodL (linesV s).2 = true := fun h => hp (hg.mp h)
        simp [hc, hp, this]
    · simp [hc]

/-! ### small ones -/

theorem pieces_small : ∀ (t acc : List UInt8) (n : Nat), acc.length + t.length ≤ n → ∀ x ∈ pieces_L t acc, x.length ≤ n := by
  intro t
  induction t with
  | nil => intro acc n h x hx; simp [pieces_L] at hx; subst hx; simpa using h
  | cons c r ih =>
    intro acc n h x hx
    simp only [List.length_cons] at h
    simp only [pieces_L] at hx
    split at hx
    · rcases List.mem_cons.mp hx with rfl | hx
      · omega
      · exact ih [] n (by simp; omega) x hx
    · exact ih _ n (by simp; omega) x hx

theorem triples_sh (n : Nat) (hn : n ≤ 10000) : ∀ (L : List (List UInt8)), (∀ x ∈ L, x.length ≤ n) → ∀ y ∈ triples L, Sh y
  | [], _, y, hy => by simp [triples] at hy
  | [_], _, y, hy => by simp [triples] at hy
  | [_, _], _, y, hy => by simp [triples] at hy
  | a :: b :: c :: r, h, y, hy => by
    simp only [triples, List.mem_cons] at hy
    rcases hy with rfl | hy
    · have h1 := h a (by simp)
      have h2 := h b (by simp)
      have h3 := h c (by simp)
      refine ⟨by simp; omega, by simp; omega, ?_⟩
      dsimp only
      split
      · simp
      · omega
    · exact triples_sh n hn r (fun x hx => h x (by simp [hx])) y hy

theorem triples_len : ∀ (L : List (List UInt8)), (triples L).length ≤ L.length
  | [] => by simp [triples]
  | [_] => by simp [triples]
  | [_, _] => by simp [triples]
  | a :: b :: c :: r => by have := triples_len r; simp [triples]; omega

theorem lines_sh (s : List UInt8) (hs : s.length ≤ 9000) : ShL (triples (linesV s).2) ∧ ShL (triples (pieces_L s []).dropLast) := by
  have h1 : ∀ x ∈ (linesV s).2, x.length ≤ 9000 := by
    unfold linesV
    split
    · intro x hx; cases hx
    · split
      · intro x hx
        exact pieces_small s.dropLast [] 9000 (by simp; omega) x hx
      · intro x hx; cases hx
  have h2 : ∀ x ∈ (pieces_L s []).dropLast, x.length ≤ 9000 := fun x hx => pieces_small s [] 9000 (by simpa using hs) x (List.dropLast_subset _ hx)
  have h3 := linesV_len s
  have h4 := pieces_L_len s []
  refine ⟨⟨?_, triples_sh 9000 (by omega) _ h1⟩, ⟨?_, triples_sh 9000 (by omega) _ h2⟩⟩
  · have := triples_len (linesV s).2; omega
  · have := triples_len (pieces_L s []).dropLast
    rw [List.length_dropLast] at this
    omega

theorem DivsParses_true (s : List UInt8) : cellarerlaw09_DivsParses s = some true := by
  unfold cellarerlaw09_DivsParses
  by_cases c1 : (3000 : Int) < (s.length : Int)
  · simp [c1, awake9]
  · obtain ⟨h1, h2⟩ := lines_sh s (by omega)
    obtain ⟨e1, e2⟩ := parse_same s
    rw [parse_eq s (by omega) h1, refParse_eq s (by omega) h2, awake9]
    by_cases hq : (linesV s).1 = true ∧ checkV (triples (linesV s).2) = 0 ∧ printV (triples (linesV s).2) = s
    · have q1 : rparseV s = (true, triples (linesV s).2) := if_pos hq
      have q2 : parseV s = (0, triples (linesV s).2) := by
        rw [q1] at e1
        unfold parseV at e1 ⊢
        by_cases hp : (linesV s).1 = true ∧ goodL (linesV s).2 = true ∧ checkV (triples (linesV s).2) = 0
        · rw [if_pos hp]
        · rw [if_neg hp] at e1; simp at e1
      have hlen : (triples (linesV s).2).length < 1000002 := by have := h1.1; omega
      rw [q1, q2]
      simp only [c1, decide_false, cond_false, Option.bind_some, decide_true, Bool.not_true, cond_true, List.drop_zero, dsame_eq _ _ hlen, Sum.elim_inr, print_eq _ h1, prnV, hq.2.1, hq.2.2, if_true]
    · have q1 : rparseV s = (false, []) := if_neg hq
      have q2 : parseV s = (2, []) := by
        rw [q1] at e1
        unfold parseV at e1 ⊢
        by_cases hp : (linesV s).1 = true ∧ goodL (linesV s).2 = true ∧ checkV (triples (linesV s).2) = 0
        · rw [if_pos hp] at e1; simp at e1
        · rw [if_neg hp]
      rw [q1, q2]
      simp [c1]

/-! ### few -/

def fewD (x : Dv) : Bool := decide (x.1.length ≤ 300) && (decide (x.2.1.length ≤ 300) && decide (x.2.2.length ≤ 300))
def fewV (l : List Dv) : Bool := decide (l.length ≤ 70) && l.all fewD

theorem if300 (n : Nat) : ((300 : Int) < (n : Int)) = ¬ (n ≤ 300) := propext (by omega)

theorem few_eq (l : List Dv) : cellarerlaw09_Few l = some (fewV l) := by
  unfold cellarerlaw09_Few fewV
  by_cases c1 : l.length ≤ 70
  · have h : iter (cellarerlaw09_Few_b0 l) (0 : Int) = _ := all_loop (cellarerlaw09_Few_b0 l) (fun _ => fewD) l (fun k hk => by
        unfold cellarerlaw09_Few_b0
        simp [show ¬ k < l.length by omega]) (fun k x r h => by
        obtain ⟨g1, g2, g3⟩ := drop_cons h ([], [], [])
        unfold cellarerlaw09_Few_b0 fewD
        simp only [natlt, g1, decide_true, cond_true, Int.natCast_nonneg, true_and, and_self, if_true, Int.toNat_natCast, g2, kplus g1 (by omega), if300]
        by_cases h1 : x.1.length ≤ 300 <;> by_cases h2 : x.2.1.length ≤ 300 <;> by_cases h3 : x.2.2.length ≤ 300 <;> simp [h1, h2, h3]) l 0 rfl
    rw [h, allFrom_const]
    have hn : ¬ (70 : Int) < (l.length : Int) := by omega
    simp only [hn, decide_false, cond_false, c1, decide_true, Bool.true_and]
    cases l.all fewD <;> rfl
  · simp [c1, show (70 : Int) < (l.length : Int) by omega]

theorem few_sh {l : List Dv} (h : fewV l = true) : ShL l ∧ l.length ≤ 70 ∧ ∀ x ∈ l, x.1.length ≤ 300 ∧ x.2.1.length ≤ 300 ∧ x.2.2.length ≤ 300 := by
  unfold fewV fewD at h
  simp only [Bool.and_eq_true, decide_eq_true_eq, List.all_eq_true] at h
  exact ⟨⟨by omega, fun x hx => by have := h.2 x hx; exact ⟨by omega, by omega, by omega⟩⟩, h.1, h.2⟩

theorem DivsTrue_true (l : List Dv) (p by_ : List UInt8) : cellarerlaw09_DivsTrue l p by_ = some true := by
  unfold cellarerlaw09_DivsTrue
  rw [few_eq, awake9]
  cases hf : fewV l with
  | false => rfl
  | true =>
    have hl := (few_sh hf).1.1
    by_cases c1 : (300 : Int) < (p.length : Int)
    · simp [c1]
    · by_cases c2 : (300 : Int) < (by_.length : Int)
      · simp [c1, c2]
      · simp [c1, c2, true_eq l p by_ hl, refTrue_eq l p by_ hl, from_eq l p hl, refFrom_eq l p hl]

theorem check_zero {l : List Dv} (h : checkV l = 0) : allFrom (chk l) 0 l = true := by
  unfold checkV at h
  split at h
  · cases h
  · split at h
    · assumption
    · cases h

theorem from_at : ∀ (l : List Dv) (i : Nat) (x : Dv), l[i]? = some x → (∀ j y, j < i → l[j]? = some y → y.2.1 ≠ x.2.1) → fromV l x.2.1 = x.1
  | [], i, x, h, _ => by simp at h
  | y :: r, 0, x, h, _ => by
    simp only [List.getElem?_cons_zero, Option.some.injEq] at h
    subst h
    simp [fromV]
  | y :: r, i + 1, x, h, hn => by
    have := hn 0 y (by omega) rfl
    simp only [fromV, this, if_false]
    exact from_at r i x (by simpa using h) (fun j z hj hz => hn (j + 1) z (by omega) (by simpa using hz))

theorem back_again {l : List Dv} {p : List UInt8} (h : checkV l = 0) (hp : fromV l p = p) : fromV l (trueV l p []) = p := by
  unfold trueV
  cases hf : findV l p with
  | none => exact hp
  | some i =>
    obtain ⟨h1, h2, h3⟩ := find_at hf
    dsimp only
    rw [if_neg (fun hq => hq.1 hq.2)]
    refine (from_at l i _ h2 (fun j y hj hy => ?_)).trans h3
    have ha := (allFrom_iff (chk l) l 0).mp (check_zero h) i _ h2
    unfold chk at ha
    simp only [Nat.zero_add, Bool.and_eq_true, Bool.not_eq_true', List.any_eq_false, decide_eq_true_eq] at ha
    exact ha.2.2.2 y (List.mem_of_getElem? (i := j) (by rw [List.getElem?_take_of_lt hj]; exact hy))

theorem DivsApart_true (l : List Dv) (p q : List UInt8) : cellarerlaw09_DivsApart l p q = some true := by
  unfold cellarerlaw09_DivsApart
  rw [few_eq, awake9]
  cases hf : fewV l with
  | false => rfl
  | true =>
    have hsh := (few_sh hf).1
    have hl := hsh.1
    by_cases c1 : (300 : Int) < (p.length : Int)
    · simp [c1]
    · by_cases c2 : (300 : Int) < (q.length : Int)
      · simp [c1, c2]
      · simp only [c1, c2, decide_false, cond_false, Option.bind_some, Bool.not_true, check_eq l hsh, from_eq l _ hl, true_eq l _ _ hl]
        by_cases h0 : checkV l = 0
        · by_cases h1 : fromV l p = p
          · by_cases h2 : fromV l q = q
            · by_cases h3 : p = q
              · simp [h0, h1, h2, h3]
              · have g1 := back_again h0 h1
                have g2 := back_again h0 h2
                have hne : trueV l p [] ≠ trueV l q [] := fun e => h3 (by rw [← g1, ← g2, e])
                simp [h0, h1, h2, h3, g1, g2, hne]
            · simp [h0, h1, h2]
          · simp [h0, h1]
        · simp [h0]

/-! ### what is printed is parsed -/

theorem plain_no10 {s : List UInt8} (h : rightV s = true) : ∀ c ∈ s, c ≠ 10 := by
  unfold rightV at h
  simp only [Bool.and_eq_true, decide_eq_true_eq] at h
  have hp : plainV s = true := by
    cases hq : plainV s with
    | true => rfl
    | false => rw [cleanV, if_neg (by rw [hq]; simp)] at h; cases h.1
  unfold plainV at hp
  simp only [Bool.and_eq_true, List.all_eq_true] at hp
  intro c hc e
  have := hp.1 c hc
  subst e
  revert this; decide

theorem allFrom_mem {α : Type} (p : Nat → α → Bool) (l : List α) (h : allFrom p 0 l = true) : ∀ c ∈ l, ∃ k, p k c = true := by
  intro c hc
  obtain ⟨i, hi⟩ := List.getElem?_of_mem hc
  exact ⟨_, (allFrom_iff p l 0).mp h i c hi⟩

theorem name_no {s : List UInt8} (h : nameV s = true) : (∀ c ∈ s, c ≠ 10) ∧ s ≠ [58] := by
  unfold nameV at h
  simp only [Bool.and_eq_true] at h
  refine ⟨fun c hc e => ?_, fun e => ?_⟩
  · obtain ⟨k, hk⟩ := allFrom_mem _ _ h.2 c hc
    subst e
    unfold nameAt at hk
    have h1 : isWord 10 = false := by decide
    have h2 : isMark 10 = false := by decide
    rw [h1, h2] at hk
    simp at hk
  · subst e
    revert h; decide

theorem pieces_one : ∀ (x q acc : List UInt8), (∀ c ∈ x, c ≠ 10) → pieces_L (x ++ 10 :: q) acc = (acc ++ x) :: pieces_L q [] := by
  intro x
  induction x with
  | nil => intro q acc _; simp [pieces_L]
  | cons c r ih =>
    intro q acc h
    have hc := h c (by simp)
    simp only [List.cons_append, pieces_L, hc, if_false]
    rw [ih q _ (fun y hy => h y (by simp [hy]))]
    simp

theorem pieces_of : ∀ (L : List (List UInt8)), (∀ x ∈ L, ∀ c ∈ x, c ≠ 10) → pieces_L (joinL L) [] = L ++ [[]] := by
  intro L
  induction L with
  | nil => intro _; rfl
  | cons x r ih =>
    intro h
    have e : joinL (x :: r) = x ++ 10 :: joinL r := by simp [joinL]
    rw [e, pieces_one x _ [] (h x (by simp)), ih (fun y hy => h y (by simp [hy]))]
    simp

theorem lines_of (L : List (List UInt8)) (h : ∀ x ∈ L, ∀ c ∈ x, c ≠ 10) : linesV (joinL L) = (true, L) := by
  have hp := pieces_of L h
  unfold linesV
  by_cases h0 : joinL L = []
  · rw [h0] at hp ⊢
    have : L = [] := by
      cases L with
      | nil => rfl
      | cons x r => simp [joinL] at h0
    subst this
    rfl
  · have hL : L ≠ [] := by rintro rfl; exact h0 rfl
    have he : endsSl_L (joinL L) = true := by
      have : joinL L = joinL L.dropLast ++ L.getLast hL ++ [10] := by
        conv => lhs; rw [← List.dropLast_concat_getLast hL]
        simp [joinL]
      unfold endsSl_L
      rw [this]
      simp
    have hd := dropLast_ends he
    rw [hd, pieces_snoc] at hp
    have hp' := List.append_cancel_right hp
    simp [h0, he, hp']

def rows (l : List Dv) : List (List UInt8) := l.flatMap fun x => [x.1, x.2.1, byV x.2.2]

theorem join_rows : ∀ l : List Dv, joinL (rows l) = printV l := by
  intro l
  induction l with
  | nil => rfl
  | cons x r ih =>
    simp only [rows, printV, joinL, List.flatMap_cons, List.flatMap_append] at ih ⊢
    rw [ih]
    simp [textV]

theorem rows_back : ∀ l : List Dv, (∀ x ∈ l, x.2.2 ≠ [58]) → triples (rows l) = l ∧ goodL (rows l) = true := by
  intro l
  induction l with
  | nil => intro _; exact ⟨rfl, rfl⟩
  | cons x r ih =>
    intro h
    obtain ⟨h1, h2⟩ := ih (fun y hy => h y (by simp [hy]))
    have hx := h x (by simp)
    have e : rows (x :: r) = x.1 :: x.2.1 :: byV x.2.2 :: rows r := by simp [rows]
    rw [e]
    constructor
    · simp only [triples, h1]
      obtain ⟨a, b, c⟩ := x
      dsimp only at hx ⊢
      unfold byV
      by_cases hc : c = []
      · simp [hc]
      · simp [hc, hx]
    · unfold goodL at h2 ⊢
      simp only [Bool.and_eq_true, decide_eq_true_eq] at h2
      have hb : byV x.2.2 ≠ [] := by unfold byV; split <;> simp_all
      simp only [List.length_cons, noEmpty, hb, decide_false, Bool.not_false, Bool.true_and, h2.2, Bool.and_true, decide_eq_true_eq]
      omega

theorem right_rows {x : Dv} (h : rightD x = true) : (∀ s ∈ [x.1, x.2.1, byV x.2.2], ∀ c ∈ s, c ≠ 10) ∧ x.2.2 ≠ [58] := by
  unfold rightD at h
  simp only [Bool.and_eq_true, Bool.or_eq_true, decide_eq_true_eq] at h
  obtain ⟨h1, h2, _, _, _, h3⟩ := h
  refine ⟨fun s hs => ?_, fun e => ?_⟩
  · simp only [List.mem_cons, List.not_mem_nil, or_false] at hs
    rcases hs with rfl | rfl | rfl
    · exact plain_no10 h1
    · exact plain_no10 h2
    · unfold byV
      rcases h3 with h3 | h3
      · rw [if_pos h3]
        intro c hc e
        simp at hc
        subst hc
        revert e; decide
      · split
        · intro c hc e
          simp at hc
          subst hc
          revert e; decide
        · exact (name_no h3).1
  · rcases h3 with h3 | h3
    · rw [h3] at e; cases e
    · exact (name_no h3).2 e

theorem printV_len : ∀ (l : List Dv), (∀ x ∈ l, x.1.length ≤ 300 ∧ x.2.1.length ≤ 300 ∧ x.2.2.length ≤ 300) → (printV l).length ≤ l.length * 904 := by
  intro l
  induction l with
  | nil => intro _; simp [printV]
  | cons x r ih =>
    intro h
    obtain ⟨h1, h2, h3⟩ := h x (by simp)
    have := ih (fun y hy => h y (by simp [hy]))
    have hb : (byV x.2.2).length ≤ 301 := by
      unfold byV; split
      · simp
      · omega
    simp only [printV, List.flatMap_cons, List.length_append, List.length_cons] at this ⊢
    simp only [textV, List.length_append, List.length_cons, List.length_nil]
    omega

theorem parse_print {l : List Dv} (hc : checkV l = 0) : linesV (printV l) = (true, rows l) ∧ triples (rows l) = l ∧ parseV (printV l) = (0, l) := by
  have ha := (allFrom_iff (chk l) l 0).mp (check_zero hc)
  have hr : ∀ x ∈ l, rightD x = true := by
    intro x hx
    obtain ⟨i, hi⟩ := List.getElem?_of_mem hx
    have := ha i x hi
    unfold chk at this
    simp only [Bool.and_eq_true] at this
    exact this.1
  have h1 : linesV (printV l) = (true, rows l) := by
    rw [← join_rows]
    refine lines_of _ fun s hs => ?_
    unfold rows at hs
    rw [List.mem_flatMap] at hs
    obtain ⟨x, hx, hs⟩ := hs
    exact (right_rows (hr x hx)).1 s hs
  obtain ⟨h2, h3⟩ := rows_back l fun x hx => (right_rows (hr x hx)).2
  refine ⟨h1, h2, ?_⟩
  unfold parseV
  rw [h1]
  dsimp only
  rw [h2, if_pos ⟨rfl, h3, hc⟩]

theorem DivsPrints_true (l : List Dv) : cellarerlaw09_DivsPrints l = some true := by
  unfold cellarerlaw09_DivsPrints
  rw [few_eq, awake9]
  cases hf : fewV l with
  | false => rfl
  | true =>
    obtain ⟨hsh, hl, hx⟩ := few_sh hf
    simp only [Option.bind_some, Bool.not_true, cond_false, print_eq l hsh, refPrint_eq l hsh, check_eq l hsh, refCheck_eq l hsh, decide_true, Sum.elim_inr]
    by_cases hc : checkV l = 0
    · obtain ⟨h1, h2, h3⟩ := parse_print hc
      have hlen := printV_len l hx
      have hp := parse_eq (printV l) (by omega) (by rw [h1]; dsimp only; rw [h2]; exact hsh)
      simp only [prnV, hc, if_true, decide_true, Bool.not_true, cond_false, hp, h3, Option.bind_some, cond_true, List.drop_zero, dsame_eq l l (by omega)]
    · simp [prnV, hc]

end Go.Cellar
