/- Library functions, told by the library's own laws: how such a law becomes a contract. No condition. -/
import Derived.Test.YtlhpgbaclbkjiaaDoorAbs22
import Derived.Lib.Join
set_option linter.unusedVariables false
namespace Go.Cellar
open Go Go.RowKit

/-- A call that was handed nothing, that lays new blocks at most. -/
theorem HSim.below {J : Inp} (h : HSim J J.w0 J.bl0 []) {w' : World} (hb : Below J.w0.heap.size J.w0 w') : HSim J w' [] [] where
  len := rfl
  many := h.many
  inj := by simp
  at_ := by simp
  obj := by simp
  le := hb.size
  old := fun b hlt _ => hb.block b hlt
  os := hb.os
  tape := hb.tape
  output := hb.output
  pin := fun j o hj => by
    have := h.many
    have h0 : J.hin = [] := List.eq_nil_of_length_eq_zero (by simpa using this)
    rw [h0] at hj
    simp at hj

/-! ### strings.Join -/

def strings_Join (l : List (List UInt8)) (sep : List UInt8) : Option (List UInt8) :=
  if l.length ≤ 140737488355328 ∧ (Lib.join l sep).length ≤ 140737488355328 then some (Lib.join l sep) else none
def strings_Join_res (r : List UInt8) : AV := .str r
def strings_Join_out (r : List UInt8) : List AO := []

theorem join_con {P : Program} {g : Nat}
    (h0 : ∀ (a : Option Addr) (c : Nat) (sep : ByteArray) (w : World), Calls P g #[.slice a 0 c, .string sep] w fun e w' => e = .returned (.string ⟨#[]⟩) ∧ w' = w)
    (h1 : ∀ (bk o c : Nat) (xs : List ByteArray) (sep : ByteArray) (w : World), (∀ (j : Nat) x, xs[j]? = some x → w.cell? ⟨bk, o + j, none⟩ = some (.string x)) → bk < w.heap.size → xs.length ≤ 140737488355328 → xs.length ≤ c →
      (Lib.join (xs.map (·.data.toList)) sep.data.toList).length ≤ 140737488355328 →
      Calls P g #[.slice (some ⟨bk, o, none⟩) xs.length c, .string sep] w fun e w' => e = .returned (.string ⟨(Lib.join (xs.map (·.data.toList)) sep.data.toList).toArray⟩) ∧ Below w.heap.size w w')
    {l : List (List UInt8)} {sep r : List UInt8} (h : strings_Join l sep = some r) : Con P g [.list .str l false, .str sep] [] (strings_Join_res r) (strings_Join_out r) := by
  unfold strings_Join at h
  split at h
  · rename_i hb
    simp only [Option.some.injEq] at h
    subst h
    intro J vals hin hsim hrep
    simp only [RepL, Rep] at hrep
    obtain ⟨v1, vs, hv, ⟨hl, _⟩, v2, vs2, hv2, rfl, rfl⟩ := hrep
    subst hv2
    simp only [RepT] at hl
    obtain ⟨ad, cap, hv1, hcap, hi⟩ := hl
    simp only [List.cons.injEq, and_true] at hv1
    subst hv1
    have hvals : vals = #[.slice ad l.length cap, .string ⟨sep.toArray⟩] := by apply Array.ext'; simpa using hv
    rw [hvals]
    by_cases he : l = []
    · subst he
      refine (h0 ad cap ⟨sep.toArray⟩ J.w0).mono ?_
      rintro e w' ⟨rfl, rfl⟩
      refine ⟨_, rfl, [], hsim.below (Below.refl _ _), ?_⟩
      simp [strings_Join_res, Rep, Lib.join]
    · have hpos : 0 < l.length := List.length_pos_iff.mpr he
      obtain ⟨a, cs0, had, hspot, _, hlen0, hcell0, _⟩ := hi 0 hpos
      obtain ⟨bk, o, spot⟩ := a
      simp only at hspot
      subst hspot
      subst had
      have key := h1 bk o cap (l.map fun x => ⟨x.toArray⟩) ⟨sep.toArray⟩ J.w0 (fun j x hx => by
          rw [List.getElem?_map, Option.map_eq_some_iff] at hx
          obtain ⟨y, hy, rfl⟩ := hx
          obtain ⟨hj, rfl⟩ := List.getElem?_eq_some_iff.mp hy
          obtain ⟨a', cs, ha', _, _, hlen, hcell, hr⟩ := hi j hj
          simp only [Option.some.injEq] at ha'
          subst ha'
          have hr0 : cs = [Value.string ⟨l[j].toArray⟩] := by simpa [RepT] using hr
          subst hr0
          have := hcell 0 (by simp)
          have this2 : J.w0.cell? ⟨bk, o + j * 1 + 0, none⟩ = some (Value.string ⟨l[j].toArray⟩) := this
          simpa using this2)
        (hcell0.lt (by rw [hlen0]; exact Ty.size_pos _)) (by simpa using hb.1) (by simpa using hcap)
        (by simpa [List.map_map, Function.comp_def] using hb.2)
      rw [List.length_map] at key
      refine key.mono ?_
      rintro e w' ⟨rfl, hw⟩
      refine ⟨_, rfl, [], hsim.below hw, ?_⟩
      simp [strings_Join_res, Rep, List.map_map, Function.comp_def]
  · cases h

end Go.Cellar
