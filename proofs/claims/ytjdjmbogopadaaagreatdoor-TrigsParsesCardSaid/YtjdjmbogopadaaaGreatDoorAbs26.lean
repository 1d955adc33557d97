/- strings.Index, by the library's own law. No condition. -/
import Derived.Test.YtjdjmbogopadaaaGreatDoorAbs25
import Derived.Lib.Index
set_option linter.unusedVariables false
namespace Go.Cellar
open Go Go.Proofs Go.RowKit

/-! ### strings.Index -/

def strings_Index (s sub : List UInt8) : Option Int := if s.length < 4294967281 then some (Lib.index s sub) else none
def strings_Index_res (r : Int) : AV := .int .i64 r
def strings_Index_out (r : Int) : List AO := []
def stringslite_Index (s sub : List UInt8) : Option Int := if s.length < 4294967281 then some (Lib.index s sub) else none
def stringslite_Index_res (r : Int) : AV := .int .i64 r
def stringslite_Index_out (r : Int) : List AO := []

theorem index_con {P : Program} {f g : Nat} (hg : (P.globals[g]?).map (·.name) = some "internal/bytealg.MaxLen")
    (h1 : ∀ (s sub : ByteArray) (m : Int) (w : World), s.size < 4294967281 → w.cell? ⟨g, 0, none⟩ = some (.int .i64 m) →
      Calls P f #[.string s, .string sub] w fun e w' => e = .returned (.int .i64 (Lib.index s.data.toList sub.data.toList)) ∧ w' = w)
    {s sub : List UInt8} (hs : s.length < 4294967281) : Con P f [.str s, .str sub] [] (.int .i64 (Lib.index s sub)) [] := by
  intro J vals hin hsim hrep hG
  simp only [RepL, Rep] at hrep
  obtain ⟨v1, vs, hv, rfl, v2, vs2, hv2, rfl, rfl⟩ := hrep
  subst hv2
  have hvals : vals = #[.string ⟨s.toArray⟩, .string ⟨sub.toArray⟩] := by apply Array.ext'; simpa using hv
  rw [hvals]
  obtain ⟨gl, h2, h3⟩ := Option.map_eq_some_iff.1 hg
  obtain ⟨_, m, hm⟩ := hG g gl h2 h3
  refine (h1 ⟨s.toArray⟩ ⟨sub.toArray⟩ m J.w0 (by simpa [ByteArray.size] using hs) hm).mono ?_
  rintro e w' ⟨rfl, rfl⟩
  exact ⟨_, rfl, [], hsim.below (Below.refl _ _), by simp only [Rep]⟩

theorem strings_Index_conOf {P : Program} {f g : Nat} (hg : (P.globals[g]?).map (·.name) = some "internal/bytealg.MaxLen")
    (h1 : ∀ (s sub : ByteArray) (m : Int) (w : World), s.size < 4294967281 → w.cell? ⟨g, 0, none⟩ = some (.int .i64 m) →
      Calls P f #[.string s, .string sub] w fun e w' => e = .returned (.int .i64 (Lib.index s.data.toList sub.data.toList)) ∧ w' = w)
    {s sub : List UInt8} {r : Int} (h : strings_Index s sub = some r) : Con P f [.str s, .str sub] [] (strings_Index_res r) (strings_Index_out r) := by
  unfold strings_Index at h
  split at h
  · rename_i hs
    simp only [Option.some.injEq] at h
    subst h
    exact index_con hg h1 hs
  · cases h

theorem stringslite_Index_conOf {P : Program} {f g : Nat} (hg : (P.globals[g]?).map (·.name) = some "internal/bytealg.MaxLen")
    (h1 : ∀ (s sub : ByteArray) (m : Int) (w : World), s.size < 4294967281 → w.cell? ⟨g, 0, none⟩ = some (.int .i64 m) →
      Calls P f #[.string s, .string sub] w fun e w' => e = .returned (.int .i64 (Lib.index s.data.toList sub.data.toList)) ∧ w' = w)
    {s sub : List UInt8} {r : Int} (h : stringslite_Index s sub = some r) : Con P f [.str s, .str sub] [] (stringslite_Index_res r) (stringslite_Index_out r) := by
  unfold stringslite_Index at h
  split at h
  · rename_i hs
    simp only [Option.some.injEq] at h
    subst h
    exact index_con hg h1 hs
  · cases h

end Go.Cellar
