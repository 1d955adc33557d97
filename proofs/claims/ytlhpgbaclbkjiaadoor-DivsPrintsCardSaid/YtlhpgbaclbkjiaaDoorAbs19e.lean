/- The one theorem on steps, and what follows of it. No condition. -/
import Derived.Test.YtlhpgbaclbkjiaaDoorAbs19v
set_option linter.unusedVariables false
set_option linter.unusedSimpArgs false
namespace Go.Cellar
open Go
section
variable {P : Program} {f : Nat} {res : AV} {hout : List AO}

theorem Ends.ret {I : Inp} {w : World} {bl : List (Option Nat)} {s : St} {tv : Array Value} {b : Frame} {cs : List Frame} {todo : List Item} {fn : Func} (hf : b.fn = f) (hk : b.kind = .normal) (hfn : P.funcs[f]? = some fn) (h : Sim I w bl s tv.toList) (hfin : finish P f s = some (res, hout))
    (hs : step P (lone (b.at ⟨tv, []⟩ todo) cs w) = .next (lone { b.at ⟨tv, []⟩ todo with mode := .returning } cs w)) : Ends P f I (lone (b.at ⟨tv, []⟩ todo) cs w) cs res hout := by
  obtain ⟨v, bl', h1, h2, h3⟩ := finish_ok (P := P) h hfn hfin
  exact ⟨v, w, _, .one hs, hf, ⟨rfl, rfl, hk, fn, by rw [show ({ b.at ⟨tv, []⟩ todo with mode := .returning } : Frame).fn = b.fn from rfl, hf]; exact hfn, h1⟩, bl', h2, h3⟩

theorem finish_fn {s : St} (h : finish P f s = some (res, hout)) : ∃ fn, P.funcs[f]? = some fn := by
  unfold finish at h
  cases hq : P.funcs[f]? with
  | none => rw [hq] at h; cases h
  | some fn => exact ⟨fn, rfl⟩

/-- THE STEP THEOREM. -/
theorem step_goes {c : Cfg} (h : (astep P c).goes P f res hout) : Goes P f c res hout := by
  obtain ⟨mode, todo, s⟩ := c
  cases mode with
  | run =>
    simp only [Goes]
    unfold astep at h
    simp only at h
    split at h
    · obtain ⟨fn, hfn⟩ := finish_fn h
      exact fun I w bl tv b cs hf hk hS => Ends.ret hf hk hfn hS h step_end
    · obtain ⟨fn, hfn⟩ := finish_fn h
      exact fun I w bl tv b cs hf hk hS => Ends.ret hf hk hfn hS h step_ret
    · exact fun I w bl tv b cs hf hk hS => Ends.head (.one step_skip) (h I w bl tv b cs hf hk hS)
    · exact fun I w bl tv b cs hf hk hS => Ends.head (.one step_label) (h I w bl tv b cs hf hk hS)
    · exact fun I w bl tv b cs hf hk hS => Ends.head (.one step_inBlock) (h I w bl tv b cs hf hk hS)
    · exact fun I w bl tv b cs hf hk hS => Ends.head (.one step_inScope) (h I w bl tv b cs hf hk hS)
    · exact fun I w bl tv b cs hf hk hS => Ends.head (.one step_seq) (h I w bl tv b cs hf hk hS)
    · rename_i o t e k
      intro I w bl tv b cs hf hk hS
      split at h
      · rename_i q hq
        have hv := ev_rep hS.tm o
        rw [hq] at hv
        simp only [Rep] at hv
        have hsaid : s.said o q = s := by
          cases o with
          | tmp t => exact said_id hq
          | _ => rfl
        refine Ends.head (.one (step_cond hv)) ?_
        cases q with
        | true =>
          have h' : Goes P f ⟨.run, .code t :: k, s.said o true⟩ res hout := h
          rw [hsaid] at h'
          exact h' I w bl tv b cs hf hk hS
        | false =>
          have h' : Goes P f ⟨.run, .code e :: k, s.said o false⟩ res hout := h
          rw [hsaid] at h'
          exact h' I w bl tv b cs hf hk hS
      · rename_i p hq
        have hv := ev_rep hS.tm o
        rw [hq] at hv
        simp only [Rep] at hv
        obtain ⟨q, hv, hp⟩ := hv
        refine Ends.head (.one (step_cond hv)) ?_
        cases q with
        | true => exact h.1 (hp rfl) I w bl tv b cs hf hk hS
        | false => exact h.2 I w bl tv b cs hf hk hS
      · exact h.elim
    · exact fun I w bl tv b cs hf hk hS => Ends.head (.one step_block) (h I w bl tv b cs hf hk hS)
    · exact fun I w bl tv b cs hf hk hS => Ends.head (.one step_loop) (h I w bl tv b cs hf hk hS)
    · exact fun I w bl tv b cs hf hk hS => Ends.head (.one step_inLoop) (h I w bl tv b cs hf hk hS)
    · exact fun I w bl tv b cs hf hk hS => Ends.head (.one step_scope) (h I w bl tv b cs hf hk hS)
    · split at h
      · rename_i hx
        exact fun I w bl tv b cs hf hk hS => Ends.head (.one (step_exit hx)) (h I w bl tv b cs hf hk hS)
      · exact h.elim
    · split at h
      · rename_i hx
        exact fun I w bl tv b cs hf hk hS => Ends.head (.one (step_goto hx)) (h I w bl tv b cs hf hk hS)
      · exact h.elim
    · exact fun I w bl tv b cs hf hk hS => Ends.head (.one step_region) (h I w bl tv b cs hf hk hS)
    · split at h
      · rename_i hd
        obtain ⟨s', h1, h2⟩ := h
        exact draw_leads hd h1 h2
      · exact h.elim
    · exact fun I w bl tv b cs hf hk hS => Ends.head (.one step_region_end) (h I w bl tv b cs hf hk hS)
    · rename_i ops i r k
      split at h
      · exact h.elim
      · rename_i o ho
        intro I w bl tv b cs hf hk hS
        rcases guarded_cases h with ⟨hg, h1⟩ | ⟨hg, h1⟩ | ⟨hg, h1⟩
        · exact op_ends hf hk hS ho (by simp [Region.wanted, hg]) h1
        · refine h1 I w bl tv b cs hf hk hS ?_
          intro ops' i' r' k' o' he ho'
          simp only [List.cons.injEq, Item.inRegion.injEq] at he
          obtain ⟨⟨rfl, rfl, rfl⟩, rfl⟩ := he
          rw [ho] at ho'
          simp only [Option.some.injEq] at ho'
          subst ho'
          exact guard_wanted hS hg
        · exact skip_ends hf hk hS ho (guard_wanted hS hg) h1
    · exact h.elim
  | perf =>
    simp only [Goes]
    unfold astep at h
    simp only at h
    split at h
    · rename_i ops i r k
      split at h
      · exact h.elim
      · rename_i o ho
        intro I w bl tv b cs hf hk hS hh
        exact op_ends hf hk hS ho (hh ops i r k o rfl ho) h
    · exact h.elim
  | draw ops i m =>
    simp only [Goes]
    unfold astep at h
    simp only at h
    split at h
    · rename_i hn
      exact ⟨s, .done hn, h⟩
    · rename_i o ho
      split at h
      · exact h.elim
      · rename_i ha
        rcases guarded_cases h with ⟨hg, h1⟩ | ⟨hg, h1⟩ | ⟨hg, h1⟩
        · exact op_drun ho (.inl hg) ha h1
        · exact h1 o ho ⟨ha, hg⟩
        · obtain ⟨s', h2, h3⟩ := h1
          exact ⟨s', .step ho ha (.skip hg) h2, h3⟩
  | dperf ops i m =>
    simp only [Goes]
    unfold astep at h
    simp only at h
    split at h
    · exact h.elim
    · rename_i o ho
      intro o' ho' hq
      rw [ho] at ho'
      simp only [Option.some.injEq] at ho'
      subst ho'
      exact op_drun ho hq.2 hq.1 h
  | dcall ops i m => exact h.elim

theorem run_goes (d : Nat) : ∀ (n : Nat) {c : Cfg}, (runTo P d n c).goes P f res hout → Goes P f c res hout
  | 0, c, h => h
  | n + 1, c, h => by
    unfold runTo at h
    split at h
    · exact h
    · refine step_goes ?_
      cases hc : astep P c with
      | next c' => rw [hc] at h; exact run_goes d n h
      | cond b c1 c2 => rw [hc] at h; exact h
      | both p c1 c2 => rw [hc] at h; exact h
      | need p c' => rw [hc] at h; exact h
      | call g a hin k => rw [hc] at h; exact h
      | loop c' => rw [hc] at h; exact h
      | ret s => rw [hc] at h; exact h
      | fail n => rw [hc] at h; exact h

theorem cut_goes {c : Cfg} (hm : c.mode = .run) (co : List Co) (keep : List Nat) (h : Goes P f (c.cut co keep) res hout) : Goes P f c res hout := by
  unfold Goes at h ⊢
  unfold Cfg.cut at h
  rw [hm] at h ⊢
  intro I w bl tv b cs hf hk hS
  obtain ⟨bl', hS'⟩ := cut_ok hS co keep
  exact h I w bl' tv b cs hf hk hS'

/-- A contract, out of a run. -/
theorem Con.of {args : List AV} {hin : List AO} {fn : Func} {c : Code} (hfn : P.funcs[f]? = some fn) (hb : fn.body = some c) (h : Goes P f (startCfg P f args hin) res hout) : Con P f args hin res hout := by
  intro J vals hJ hsim hrep cs
  let b : Frame := { (default : Frame) with fn := f, kind := .normal }
  have henter : Frame.enter P f vals .normal = b.at { tmps := vals ++ Array.replicate (fn.ntmps - vals.size) undef, defers := [] } [.code c] := by
    simp [Frame.enter, Frame.at, hfn, hb, b]
  unfold startCfg Goes at h
  rw [hfn] at h
  simp only [hb] at h
  have hlen := hrep.length
  have hS : Sim J J.w0 J.bl0 ⟨argsOf fn args, hin, hin.length⟩ (vals ++ Array.replicate (fn.ntmps - vals.size) undef).toList := by
    refine ⟨hsim, ?_, by rw [hJ]⟩
    show RepL _ (argsOf fn args) _
    unfold argsOf
    rw [Array.toList_append]
    refine hrep.append ?_
    have e : fn.ntmps - vals.size = fn.ntmps - args.length := by simp at hlen; omega
    rw [e]
    have : ∀ n, RepL (J.env J.w0 J.bl0 hin) (List.replicate n (.tup [])) (List.replicate n undef) := by
      intro n
      induction n with
      | zero => simp [RepL]
      | succ n ih => exact ⟨undef, _, by simp [List.replicate_succ], by simp only [Rep]; exact ⟨#[], rfl, by simp [RepL]⟩, ih⟩
    simpa using this (fn.ntmps - args.length)
  obtain ⟨v, w', fr, h1, h2, h3, h4⟩ := h J J.w0 J.bl0 _ b cs rfl rfl hS
  rw [henter]
  exact ⟨.returned v, w', fr, ⟨v, rfl, h4⟩, h1, h2, h3⟩

end
end Go.Cellar
