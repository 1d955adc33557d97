/- What the world begins with: the library's one open number; and how a law's row hears of it. No condition. -/
import Derived.Test.YtjdjmbogopadaaaGreatDoorAbs24
import Derived.Shelf.Vars
import Derived.Handed
set_option linter.unusedVariables false
namespace Go.Cellar
open Go Go.Proofs Go.RowKit

/-- Go's own 'MaxLen', where the program has it, is an int with a cell of its own. -/
def globB (P : Program) : Bool := (List.range P.globals.size).all fun g => match P.globals[g]? with
  | some gl => match gl.name == "internal/bytealg.MaxLen" with
    | true => match ((begin P (fun _ _ => 0) default).world.heap[g]?).bind Obj.row? with
      | some (zero, t) => Nat.beq zero.size 1 && P.buildable t && (match P.cellTypes P.depth t with | some [u] => Nat.beq u t | _ => false) && (match P.underlying t with | some (.int .i64) => true | _ => false)
      | none => false
    | false => true
  | none => true

theorem globOk_of {P : Program} {w : World} (hb : globB P = true) (h : w.ShapedOpen P) {ok0 : Nat → Prop} : GlobOk P ⟨w, ok0, [], []⟩ := by
  intro g gl hg hn
  refine ⟨by simp, ?_⟩
  have hlt : g < P.globals.size := (Array.getElem?_eq_some_iff.1 hg).1
  unfold globB at hb
  rw [List.all_eq_true] at hb
  have hb := hb g (List.mem_range.mpr hlt)
  rw [hg] at hb
  simp only [hn, beq_self_eq_true] at hb
  split at hb
  · rename_i zero t hz
    simp only [Bool.and_eq_true] at hb
    obtain ⟨⟨⟨h1, h2⟩, h3⟩, h4⟩ := hb
    split at h3
    · rename_i u hu
      split at h4
      · rename_i hi
        have e1 := Nat.eq_of_beq_eq_true h1
        have e2 := Nat.eq_of_beq_eq_true h3
        subst e2
        exact cell_of_shapedOpen_int h hlt hz e1 h2 hu hi
      · cases h4
    · cases h3
  · cases hb

/-- The kit's 'returnsInHanded_of_change_and', the world's shape handed on. -/
theorem returns_shaped {H : Type} {enc : TypeId × Value → H} {a : Assume} {C : Checked} {os : Os} {f : FuncId} {fn : Func} {s : ChangeSpec} {conds : List PathCond} {apart fresh handsOn again : Bool} {X : World → Array Value → Prop}
    (hX : ∀ (w w' : World) (args : Array Value), w.heap = w'.heap → X w args → X w' args)
    (own : ownKnob C.prog.godebug = none) (started : os.Started) (noInit : C.prog.inits.idxOf? f = none) (hfn : C.prog.funcs[f]? = some fn)
    (witness : ∃ (w : World) (tape : Tape) (i : Input), w.os = os ∧ (w.forCall tape i).Shaped C.prog ∧ i.vars = [] ∧ Input.okWide C.prog (w.forCall tape i) .any w.heap.size f i ∧
      ((s.pre enc C.prog fn conds apart (w.forCall tape i).memory i.args ∧ X (w.forCall tape i).memory i.args) ∧ sizedMet enc C.prog fn (OpenSpec.ofChange s) apart (w.forCall tape i).memory i.args) ∧ a.holds C.prog (lone (Frame.enter C.prog f i.args .normal) [] (w.forCall tape i)))
    (contract : ∀ (W : World) (base : Nat) (args : Array Value) (ds gs : List (DataW H)) (before : List MemPlace),
      (∀ (j : Nat) t v, fn.params[j]? = some t → args[j]? = some v → Value.okWide C.prog W .any base t v) →
      W.ShapedOpen C.prog →
      DataW.Whole enc C.prog fn.params.toList s.vars apart W args.toList ds gs before →
      Calls C.prog f args W fun e W' => ∃ v, e = .returned v ∧ s.post enc C.prog fn apart fresh handsOn again W args v W') :
    ReturnsInHanded a C os f .any (fun w args => (s.pre enc C.prog fn conds apart w args ∧ X w args) ∧ sizedMet enc C.prog fn (OpenSpec.ofChange s) apart w args) (s.post enc C.prog fn apart fresh handsOn again) := by
  refine returnsInHanded_of_calls own started noInit witness ?_
  intro w tape i _ hsh _ hok hpre _
  obtain ⟨_, _, _, fn', hfn', _, _, _, _, hval⟩ := hok
  have e : fn' = fn := Option.some.inj (hfn'.symm.trans hfn)
  subst e
  obtain ⟨⟨⟨ds, gs, before, hw, hc⟩, hx⟩, hz⟩ := hpre
  have hw' := DataW.Whole.of_heap (w' := w.forCall tape i) (by rfl) hw
  refine (contract (w.forCall tape i) w.heap.size i.args ds gs before hval hsh hw').mono fun e W' ⟨v, he, hp⟩ => ?_
  subst he
  exact ChangeSpec.post_blind hp

end Go.Cellar
