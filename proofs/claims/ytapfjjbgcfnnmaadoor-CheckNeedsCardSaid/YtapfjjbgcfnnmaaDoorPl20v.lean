/- What an argument that fits its type tells. No condition. -/
import Derived.Test.YtapfjjbgcfnnmaaDoorPl20u
import Derived.Test.YtapfjjbgcfnnmaaDoorAbs22
set_option linter.unusedSimpArgs false
set_option linter.unusedVariables false
set_option maxRecDepth 8000
namespace Go.Cellar
open Go

abbrev tR : Ty := .prod .str (.prod .str .str)
abbrev tRec : Ty := .prod .str (.prod .str (.prod (.int .i64) (.prod (.list (.list tR)) (.prod (.list tR) (.prod (.list .str) (.prod (.list (.prod .str .str)) (.prod (.list .str) (.list .str))))))))

theorem fitDeps {dep : List (List Rl)} (h : Ty.fit (.list (.list tR)) dep) : ∀ g ∈ dep, g.length ≤ 9223372036854775807 ∧ ∀ y ∈ g, FitR y := by
  simp only [Ty.fit] at h
  have hm : maxLen = 9223372036854775807 := by decide
  intro g hg
  obtain ⟨h1, h2⟩ := h.2 g hg
  refine ⟨by omega, fun y hy => ?_⟩
  obtain ⟨y1, y2, y3⟩ := h2 y hy
  exact ⟨by omega, by omega, by omega⟩

theorem fitRecs {l : List Rec} (h : Ty.fit (.list tRec) l) : ∀ x ∈ l, FitRec x := by
  intro x hx
  have h2 : Ty.fit tRec x := by
    have h' := h
    rw [Ty.fit] at h'
    exact h'.2 x hx
  rw [Ty.fit, Ty.fit, Ty.fit, Ty.fit] at h2
  exact fitDeps h2.2.2.2.1

end Go.Cellar
