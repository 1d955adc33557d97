/- A fresh list of texts as a result; lists of texts, and of named lists, where they lie in memory. No condition. -/
import Derived.Test.YtjdjmbogopadaaaGreatDoorAbs28
import Derived.Lib.SlicesS
set_option linter.unusedVariables false
set_option linter.unusedSimpArgs false
namespace Go.Cellar
open Go Go.RowKit

theorem spost_con {P : Program} {f : Nat} {args : List AV} {l' : List (List UInt8)} (h : ∀ (J : Inp) (vals : Array Value), RepL (J.env J.w0 [] []) args vals.toList → Calls P f vals J.w0 (SPost l' J.w0)) :
    Con P f args [] (.view 0 0 none) [.row .str l'] := by
  intro J vals hin hsim hrep hG
  have hbl : J.bl0 = [] := List.eq_nil_of_length_eq_zero (by simpa using hsim.len)
  rw [hbl] at hrep
  refine (h J vals hrep).mono ?_
  rintro e w' ⟨v, rfl, hsz, hold, hos, ht, ho, hcase⟩
  refine ⟨v, rfl, ?_⟩
  rcases hcase with ⟨hnil, rfl⟩ | ⟨q, cp, cur, e0, rfl, hq, hh, hn, hcs, htk⟩
  · refine ⟨[none], ⟨rfl, by rw [hin]; simp, ?_, ?_, ?_, hsz, fun b hb _ => hold b hb, hos, ht, ho, by rw [hin]; simp⟩, ?_⟩
    · intro r r' b h1 h2
      match r with
      | 0 => simp at h1
      | n + 1 => simp at h1
    · intro r b h1
      match r with
      | 0 => simp at h1
      | n + 1 => simp at h1
    · intro r o ho
      match r with
      | 0 =>
        simp only [List.getElem?_cons_zero, Option.some.injEq] at ho
        subst ho
        exact .inl ⟨rfl, hnil⟩
      | n + 1 => simp at ho
    · simp only [Rep]
      exact ⟨1, 0, by show rowShape [AO.row .str l'] 0 = _; simp [rowShape, hnil]; rfl, by simp, by simp, none, 0, rfl, by simp, .inl rfl⟩
  · have hqlt : q < w'.heap.size := (Array.getElem?_eq_some_iff.mp hh).1
    refine ⟨[some q], ⟨rfl, by rw [hin]; simp, ?_, ?_, ?_, hsz, fun b hb _ => hold b hb, hos, ht, ho, by rw [hin]; simp⟩, ?_⟩
    · intro r r' b h1 h2
      match r, r' with
      | 0, 0 => rfl
      | n + 1, _ => simp at h1
      | 0, n + 1 => simp at h2
    · intro r b h1
      match r with
      | 0 =>
        simp only [List.getElem?_cons_zero, Option.some.injEq] at h1
        subst h1
        exact ⟨hqlt, .inr hq⟩
      | n + 1 => simp at h1
    · intro r o ho
      match r with
      | 0 =>
        simp only [List.getElem?_cons_zero, Option.some.injEq] at ho
        subst ho
        refine .inr ⟨q, cur, e0, rfl, hh, ?_, fun i hi => ?_⟩
        · show l'.length * 1 ≤ _
          have : cur.toList.length = cur.size := by simp
          omega
        · show RepT _ _ .str l'[i] ((cur.toList.drop (i * 1)).take 1)
          rw [Nat.mul_one]
          have h2 := congrArg (·[i]?) htk
          simp only [List.getElem?_take, hi, if_true, List.getElem?_map, List.getElem?_eq_getElem hi, Option.map_some] at h2
          rw [List.getElem?_eq_some_iff] at h2
          obtain ⟨h3, h4⟩ := h2
          rw [List.drop_eq_getElem_cons h3, List.take_succ_cons, List.take_zero, h4]
          simp [RepT]
      | n + 1 => simp at ho
    · simp only [Rep]
      refine ⟨1, l'.length, by show rowShape [AO.row .str l'] 0 = _; simp [rowShape]; rfl, by simp, by simp, some ⟨q, 0, none⟩, cp, by simp, by simpa using hn, .inr ⟨q, rfl, by simp, ?_⟩⟩
      show (0 + cp) * 1 ≤ blockSize w' q
      rw [blockSize_of hh]
      omega

/-- Texts one behind the other, below n. -/
def TextsAt (n : Nat) (w : World) (a : Option Addr) (ps : List (List UInt8)) : Prop :=
  ps = [] ∨ ∃ b o, a = some ⟨b, o, none⟩ ∧ b < n ∧ ∀ j, j < ps.length → w.cell? ⟨b, o + j, none⟩ = some (.string ⟨(ps.getD j []).toArray⟩)

/-- Named lists one behind the other, below n. -/
def ListsAt (n : Nat) (w : World) (a : Option Addr) (l : List (List UInt8 × List (List UInt8))) : Prop :=
  l = [] ∨ ∃ b o, a = some ⟨b, o, none⟩ ∧ b < n ∧ ∀ k, k < l.length → w.cell? ⟨b, o + k * 2, none⟩ = some (.string ⟨(l.getD k ([], [])).1.toArray⟩) ∧
    ∃ pa pc, w.cell? ⟨b, o + k * 2 + 1, none⟩ = some (.slice pa (l.getD k ([], [])).2.length pc) ∧ TextsAt n w pa (l.getD k ([], [])).2

theorem TextsAt.below {n : Nat} {A B : World} (h : Below n A B) {a : Option Addr} {ps : List (List UInt8)} : TextsAt n A a ps → TextsAt n B a ps
  | .inl e => .inl e
  | .inr ⟨b, o, e, hb, hc⟩ => .inr ⟨b, o, e, hb, fun j hj => (h.cell (p := ⟨b, o + j, none⟩) hb).trans (hc j hj)⟩

theorem ListsAt.below {n : Nat} {A B : World} (h : Below n A B) {a : Option Addr} {l : List (List UInt8 × List (List UInt8))} : ListsAt n A a l → ListsAt n B a l
  | .inl e => .inl e
  | .inr ⟨b, o, e, hb, hc⟩ => .inr ⟨b, o, e, hb, fun k hk => by
      obtain ⟨h1, pa, pc, h2, h3⟩ := hc k hk
      exact ⟨(h.cell (p := ⟨b, o + k * 2, none⟩) hb).trans h1, pa, pc, (h.cell (p := ⟨b, o + k * 2 + 1, none⟩) hb).trans h2, h3.below h⟩⟩

theorem texts_of {w : World} {ok : Nat → Prop} {ps : List (List UInt8)} {v : Value} (h : RepT w ok (.list .str) ps [v]) : ∃ a c, v = .slice a ps.length c ∧ TextsAt w.heap.size w a ps := by
  simp only [RepT] at h
  obtain ⟨ad, cap, hv, _, hi⟩ := h
  simp only [List.cons.injEq, and_true] at hv
  subst hv
  refine ⟨ad, cap, rfl, ?_⟩
  by_cases he : ps = []
  · exact .inl he
  · have hpos : 0 < ps.length := List.length_pos_iff.mpr he
    obtain ⟨a, cs0, had, hspot, _, hlen0, hcell0, _⟩ := hi 0 hpos
    obtain ⟨bk, o, spot⟩ := a
    simp only at hspot
    subst hspot
    subst had
    refine .inr ⟨bk, o, rfl, hcell0.lt (by rw [hlen0]; exact Ty.size_pos _), fun j hj => ?_⟩
    obtain ⟨a', cs, ha', _, _, hlen, hcell, hr⟩ := hi j hj
    simp only [Option.some.injEq] at ha'
    subst ha'
    have hr0 : cs = [Value.string ⟨ps[j].toArray⟩] := by simpa [RepT] using hr
    subst hr0
    have this2 : w.cell? ⟨bk, o + j * 1 + 0, none⟩ = some (Value.string ⟨ps[j].toArray⟩) := hcell 0 (by simp)
    simpa [List.getD_eq_getElem?_getD, hj] using this2

theorem lists_of {w : World} {ok : Nat → Prop} {l : List (List UInt8 × List (List UInt8))} {v : Value} (h : RepT w ok (.list (.prod .str (.list .str))) l [v]) : ∃ a c, v = .slice a l.length c ∧ ListsAt w.heap.size w a l := by
  rw [RepT] at h
  obtain ⟨ad, cap, hv, _, hi⟩ := h
  simp only [List.cons.injEq, and_true] at hv
  subst hv
  refine ⟨ad, cap, rfl, ?_⟩
  by_cases he : l = []
  · exact .inl he
  · have hpos : 0 < l.length := List.length_pos_iff.mpr he
    obtain ⟨a, cs0, had, hspot, _, hlen0, hcell0, _⟩ := hi 0 hpos
    obtain ⟨bk, o, spot⟩ := a
    simp only at hspot
    subst hspot
    subst had
    refine .inr ⟨bk, o, rfl, hcell0.lt (by rw [hlen0]; exact Ty.size_pos _), fun k hk => ?_⟩
    obtain ⟨a', cs, ha', _, _, hlen, hcell, hr⟩ := hi k hk
    simp only [Option.some.injEq] at ha'
    subst ha'
    rw [RepT] at hr
    obtain ⟨va, vb, rfl, hra, hrb⟩ := hr
    have hra0 : va = [Value.string ⟨l[k].1.toArray⟩] := by simpa [RepT] using hra
    subst hra0
    have hbl : vb.length = 1 := RepT.length (.list .str) _ _ hrb
    obtain ⟨u, rfl⟩ : ∃ u, vb = [u] := by
      match vb, hbl with
      | [u], _ => exact ⟨u, rfl⟩
    obtain ⟨pa, pc, rfl, ht⟩ := texts_of hrb
    have h0 : w.cell? ⟨bk, o + k * 2 + 0, none⟩ = some (Value.string ⟨l[k].1.toArray⟩) := hcell 0 (by simp)
    have h1 : w.cell? ⟨bk, o + k * 2 + 1, none⟩ = some (.slice pa l[k].2.length pc) := hcell 1 (by simp)
    have hg : l.getD k ([], []) = l[k] := by simp [List.getD_eq_getElem?_getD, hk]
    rw [hg]
    exact ⟨by simpa using h0, pa, pc, h1, ht⟩

theorem contains_mem {ps : List (List UInt8)} {p : List UInt8} (n : Nat) (hn : n = ps.length) : Lib.containsS ((ps.map fun x => (⟨x.toArray⟩ : ByteArray)).take n) ⟨p.toArray⟩ = decide (p ∈ ps) := by
  subst hn
  rw [List.take_of_length_le (by simp)]
  rw [Bool.eq_iff_iff, Lib.containsS_iff, decide_eq_true_eq, List.mem_map]
  constructor
  · rintro ⟨x, hx, e⟩
    have : x = p := by simpa using e
    exact this ▸ hx
  · intro h
    exact ⟨p, h, rfl⟩

/-- slices.Contains of texts, wherever they lie. -/
theorem contains_calls {P : Program} {g : Nat}
    (h0 : ∀ (a : Option Addr) (c : Nat) (x : ByteArray) (w : World), Calls P g #[.slice a 0 c, .string x] w fun e w' => e = .returned (.bool false) ∧ w' = w)
    (h1 : ∀ (b off n c : Nat) (zs : List ByteArray) (x : ByteArray) (w : World), n ≤ zs.length → n ≤ 9223372036854775807 → (∀ j, j < zs.length → w.cell? ⟨b, off + j, none⟩ = some (.string (zs.getD j ByteArray.empty))) →
      Calls P g #[.slice (some ⟨b, off, none⟩) n c, .string x] w fun e w' => e = .returned (.bool (Lib.containsS (zs.take n) x)) ∧ w' = w)
    {n : Nat} {W : World} {a : Option Addr} {ps : List (List UInt8)} (c : Nat) (p : List UInt8) (h : TextsAt n W a ps) (hl : ps.length ≤ 9223372036854775807) :
    Calls P g #[.slice a ps.length c, .string ⟨p.toArray⟩] W fun e w' => e = .returned (.bool (decide (p ∈ ps))) ∧ w' = W := by
  rcases h with rfl | ⟨b, o, rfl, _, hc⟩
  · exact (h0 a c _ W).mono fun e w' he => by simpa using he
  · refine (h1 b o ps.length c (ps.map fun x => ⟨x.toArray⟩) _ W (by simp) hl fun j hj => ?_).mono fun e w' he => ?_
    · rw [List.length_map] at hj
      rw [hc j hj]
      simp [List.getD_eq_getElem?_getD, hj]
    · rwa [contains_mem ps.length rfl] at he

end Go.Cellar
