/- The one theorem on steps, and what follows of it. No condition. -/
import Derived.Test.YtjdjmbogopadaaaGreatDoorAbs19v

set_option linter.unusedVariables false
set_option linter.unusedSimpArgs false
namespace Go.Cellar
open Go
section
variable {P : Program} {f : Nat} {res : AV} {hout : List AO}

theorem Ends.ret {I : Inp} {w : World} {bl : List (Option Nat)} {s : St} {tv : Array Value} {b : Frame} {cs : List Frame} {todo : List Item} {fn : Func} (hf : b.fn = f) (hk : b.kind = .normal) (hfn : P.funcs[f]? = some fn) (h : Sim I w bl s tv.toList) (hfin : finish P f s = some (res, hout))
    (hs : step P (lone (b.at ⟨tv, []⟩ todo) cs w) = .next (lone { b.at ⟨tv, []⟩ todo with mode := .returning } cs w)) : Ends P f I (lone (b.at ⟨tv, []⟩ todo) cs w) cs res hout := by
  obtain ⟨v, bl', h1, h2, h3⟩ := finish_ok (P := P) h hfn hfin
  exact ⟨v, w, _, .one hs, hf, ⟨rfl, rfl, hk, fn, by rw [show ({ b.at ⟨tv, []⟩ todo with mode := .returning } : Frame).fn = b.fn from rfl, hf]; exact hfn, h1⟩, bl', h2, h3⟩

theorem finish_fn {s : St} (h : finish P f s = some (res, hout)) : ∃ fn, P.funcs[f]? = some fn := by
  unfold finish at h
  cases hq : P.funcs[f]? with
  | none => rw [hq] at h; cases h
  | some fn => exact ⟨fn, rfl⟩

/-- THE STEP THEOREM. -/
theorem step_goes {c : Cfg} (h : (astep P c).goes P f res hout) : Goes P f c res hout := by
  obtain ⟨mode, todo, s⟩ := c
  cases mode with
  | run =>
    simp only [Goes]
    unfold astep at h
    simp only at h
    split at h
    · obtain ⟨fn, hfn⟩ := finish_fn h
      exact fun I w bl tv b cs hf hk hS hG => Ends.ret hf hk hfn hS h step_end
    · obtain ⟨fn, hfn⟩ := finish_fn h
      exact fun I w bl tv b cs hf hk hS hG => Ends.ret hf hk hfn hS h step_ret
    · exact fun I w bl tv b cs hf hk hS hG => Ends.head (.one step_skip) (h I w bl tv b cs hf hk hS hG)
    · exact fun I w bl tv b cs hf hk hS hG => Ends.head (.one step_label) (h I w bl tv b cs hf hk hS hG)
    · exact fun I w bl tv b cs hf hk hS hG => Ends.head (.one step_inBlock) (h I w bl tv b cs hf hk hS hG)
    · exact fun I w bl tv b cs hf hk hS hG => Ends.head (.one step_inScope) (h I w bl tv b cs hf hk hS hG)
    · exact fun I w bl tv b cs hf hk hS hG => Ends.head (.one step_seq) (h I w bl tv b cs hf hk hS hG)
    · rename_i o t e k
      intro I w bl tv b cs hf hk hS hG
      split at h
      · rename_i q hq
        have hv := ev_rep hS.tm o
        rw [hq] at hv
        simp only [Rep] at hv
        have hsaid : s.said o q = s := by
          cases o with
          | tmp t => exact said_id hq
          | _ => rfl
        refine Ends.head (.one (step_cond hv)) ?_
        cases q with
        | true =>
          have h' : Goes P f ⟨.run, .code t :: k, s.said o true⟩ res hout := h
          rw [hsaid] at h'
          exact h' I w bl tv b cs hf hk hS hG
        | false =>
          have h' : Goes P f ⟨.run, .code e :: k, s.said o false⟩ res hout := h
          rw [hsaid] at h'
          exact h' I w bl tv b cs hf hk hS hG
      · rename_i p hq
        have hv := ev_rep hS.tm o
        rw [hq] at hv
        simp only [Rep] at hv
        obtain ⟨q, hv, hp⟩ := hv
        refine Ends.head (.one (step_cond hv)) ?_
        cases q with
        | true => exact h.1 (hp rfl) I w bl tv b cs hf hk hS hG
        | false => exact h.2 I w bl tv b cs hf hk hS hG
      · exact h.elim
    · exact fun I w bl tv b cs hf hk hS hG => Ends.head (.one step_block) (h I w bl tv b cs hf hk hS hG)
    · exact fun I w bl tv b cs hf hk hS hG => Ends.head (.one step_loop) (h I w bl tv b cs hf hk hS hG)
    · exact fun I w bl tv b cs hf hk hS hG => Ends.head (.one step_inLoop) (h I w bl tv b cs hf hk hS hG)
    · exact fun I w bl tv b cs hf hk hS hG => Ends.head (.one step_scope) (h I w bl tv b cs hf hk hS hG)
    · split at h
      · rename_i hx
        exact fun I w bl tv b cs hf hk hS hG => Ends.head (.one (step_exit hx)) (h I w bl tv b cs hf hk hS hG)
      · exact h.elim
    · split at h
      · rename_i hx
        exact fun I w bl tv b cs hf hk hS hG => Ends.head (.one (step_goto hx)) (h I w bl tv b cs hf hk hS hG)
      · exact h.elim
    · exact fun I w bl tv b cs hf hk hS hG => Ends.head (.one step_region) (h I w bl tv b cs hf hk hS hG)
    · split at h
      · rename_i hd
        obtain ⟨s', h1, h2⟩ := h
        exact draw_leads hd h1 h2
      · exact h.elim
    · exact fun I w bl tv b cs hf hk hS hG => Ends.head (.one step_region_end) (h I w bl tv b cs hf hk hS hG)
    · rename_i ops i r k
      split at h
      · exact h.elim
      · rename_i o ho
        intro I w bl tv b cs hf hk hS hG
        rcases guarded_cases h with ⟨hg, h1⟩ | ⟨hg, h1⟩ | ⟨hg, h1⟩
        · exact op_ends hf hk hS hG ho (by simp [Region.wanted, hg]) h1
        · refine h1 I w bl tv b cs hf hk hS hG ?_
          intro ops' i' r' k' o' he ho'
          simp only [List.cons.injEq, Item.inRegion.injEq] at he
          obtain ⟨⟨rfl, rfl, rfl⟩, rfl⟩ := he
          rw [ho] at ho'
          simp only [Option.some.injEq] at ho'
          subst ho'
          exact guard_wanted hS hg
        · exact skip_ends hf hk hS hG ho (guard_wanted hS hg) h1
    · exact h.elim
  | perf =>
    simp only [Goes]
    unfold astep at h
    simp only at h
    split at h
    · rename_i ops i r k
      split at h
      · exact h.elim
      · rename_i o ho
        intro I w bl tv b cs hf hk hS hG hh
        exact op_ends hf hk hS hG ho (hh ops i r k o rfl ho) h
    · exact h.elim
  | draw ops i m =>
    simp only [Goes]
    unfold astep at h
    simp only at h
    split at h
    · rename_i hn
      exact ⟨s, .done hn, h⟩
    · rename_i o ho
      split at h
      · exact h.elim
      · rename_i ha
        rcases guarded_cases h with ⟨hg, h1⟩ | ⟨hg, h1⟩ | ⟨hg, h1⟩
        · exact op_drun ho (.inl hg) ha h1
        · exact h1 o ho ⟨ha, hg⟩
        · obtain ⟨s', h2, h3⟩ := h1
          exact ⟨s', .step ho ha rfl (.skip hg) h2, h3⟩
  | dperf ops i m =>
    simp only [Goes]
    unfold astep at h
    simp only at h
    split at h
    · exact h.elim
    · rename_i o ho
      intro o' ho' hq
      rw [ho] at ho'
      simp only [Option.some.injEq] at ho'
      subst ho'
      exact op_drun ho hq.2 hq.1 h
  | dcall ops i m => exact h.elim
  | dbor ops i m => exact h.elim

theorem run_goes (d : Nat) : ∀ (n : Nat) {c : Cfg}, (runTo P d n c).goes P f res hout → Goes P f c res hout
  | 0, c, h => h
  | n + 1, c, h => by
    unfold runTo at h
    split at h
    · exact h
    · refine step_goes ?_
      cases hc : astep P c with
      | next c' => rw [hc] at h; exact run_goes d n h
      | cond b c1 c2 => rw [hc] at h; exact h
      | both p c1 c2 => rw [hc] at h; exact h
      | need p c' => rw [hc] at h; exact h
      | call g a hin k => rw [hc] at h; exact h
      | loop c' => rw [hc] at h; exact h
      | ret s => rw [hc] at h; exact h
      | fail n => rw [hc] at h; exact h

theorem cut_goes {c : Cfg} (hm : c.mode = .run) (co : List Co) (keep : List Nat) (h : Goes P f (c.cut co keep) res hout) : Goes P f c res hout := by
  unfold Goes at h ⊢
  unfold Cfg.cut at h
  rw [hm] at h ⊢
  intro I w bl tv b cs hf hk hS hG
  obtain ⟨bl', hS'⟩ := cut_ok hS co keep
  exact h I w bl' tv b cs hf hk hS' hG

/-- A contract, out of a run. -/
theorem Con.of {args : List AV} {hin : List AO} {fn : Func} {c : Code} (hfn : P.funcs[f]? = some fn) (hb : fn.body = some c) (h : Goes P f (startCfg P f args hin) res hout) : Con P f args hin res hout := by
  intro J vals hJ hsim hrep hG cs
  let b : Frame := { (default : Frame) with fn := f, kind := .normal }
  have henter : Frame.enter P f vals .normal = b.at { tmps := vals ++ Array.replicate (fn.ntmps - vals.size) undef, defers := [] } [.code c] := by
    simp [Frame.enter, Frame.at, hfn, hb, b]
  unfold startCfg Goes at h
  rw [hfn] at h
  simp only [hb] at h
  have hlen := hrep.length
  have hS : Sim J J.w0 J.bl0 ⟨argsOf fn args, hin, hin.length⟩ (vals ++ Array.replicate (fn.ntmps - vals.size) undef).toList := by
    refine ⟨hsim, ?_, by rw [hJ]⟩
    show RepL _ (argsOf fn args) _
    unfold argsOf
    rw [Array.toList_append]
    refine hrep.append ?_
    have e : fn.ntmps - vals.size = fn.ntmps - args.length := by simp at hlen; omega
    rw [e]
    have : ∀ n, RepL (J.env J.w0 J.bl0 hin) (List.replicate n (.tup [])) (List.replicate n undef) := by
      intro n
      induction n with
      | zero => simp [RepL]
      | succ n ih => exact ⟨undef, _, by simp [List.replicate_succ], by simp only [Rep]; exact ⟨#[], rfl, by simp [RepL]⟩, ih⟩
    simpa using this (fn.ntmps - args.length)
  obtain ⟨v, w', fr, h1, h2, h3, h4⟩ := h J J.w0 J.bl0 _ b cs rfl rfl hS hG
  rw [henter]
  exact ⟨.returned v, w', fr, ⟨v, rfl, h4⟩, h1, h2, h3⟩

end
end Go.Cellar

/- The rules that a lifted function's proof is made of, and loops as plain functions. No condition. -/
set_option linter.unusedVariables false
namespace Go.Cellar
open Go

section
variable {P : Program} {f : Nat} {res : AV} {hout : List AO} {c : Cfg}

theorem G.cond (d n : Nat) {b : Bool} (h : (runTo P d n c).condOf = some b) (ht : b = true → Goes P f (runTo P d n c).cfg res hout) (hf : b = false → Goes P f (runTo P d n c).cfg2 res hout) : Goes P f c res hout := by
  refine run_goes d n ?_
  cases hs : runTo P d n c <;> rw [hs] at h ht hf <;> simp only [Step.condOf, Option.some.injEq, reduceCtorEq] at h
  subst h
  rename_i b c1 c2
  cases b
  · exact hf rfl
  · exact ht rfl

theorem G.both (d n : Nat) {p : Bool} (h : (runTo P d n c).bothOf = some p) (ht : p = true → Goes P f (runTo P d n c).cfg res hout) (hf : Goes P f (runTo P d n c).cfg2 res hout) : Goes P f c res hout := by
  refine run_goes d n ?_
  cases hs : runTo P d n c <;> rw [hs] at h ht hf <;> simp only [Step.bothOf, Option.some.injEq, reduceCtorEq] at h
  subst h
  exact ⟨ht, hf⟩

theorem G.need (d n : Nat) {p : Prop} (h : (runTo P d n c).needOf = some p) (hp : p) (h' : Goes P f (runTo P d n c).cfg res hout) : Goes P f c res hout := by
  refine run_goes d n ?_
  cases hs : runTo P d n c <;> rw [hs] at h h' <;> simp only [Step.needOf, Option.some.injEq, reduceCtorEq] at h
  subst h
  exact ⟨hp, h'⟩

theorem calm_of {k : Site} {r : AV} {ho : List AO} (h : k.calmB r ho = true) : k.calm r ho := by
  unfold Site.calmB at h
  unfold Site.calm
  split
  · rename_i hm
    rw [hm] at h
    simp only [Bool.or_eq_true] at h
    exact h.imp (fun h => Nat.eq_of_beq_eq_true h) id
  · rename_i hm
    rw [hm] at h
    simp only [Bool.or_eq_true] at h
    exact h.imp (fun h => Nat.eq_of_beq_eq_true h) id
  · trivial

theorem G.call (d n : Nat) {g : Nat} {args : List AV} {hin : List AO} {r : AV} {ho : List AO} (h : (runTo P d n c).callOf = some (g, args, hin)) (hcon : Con P g args hin r ho) (hcalm : (runTo P d n c).site.calmB r ho = true)
    (h' : Goes P f ((runTo P d n c).site.resume r ho) res hout) : Goes P f c res hout := by
  refine run_goes d n ?_
  cases hs : runTo P d n c <;> rw [hs] at h h' hcalm <;> simp only [Step.callOf, Option.some.injEq, Prod.mk.injEq, reduceCtorEq] at h
  obtain ⟨rfl, rfl, rfl⟩ := h
  exact ⟨r, ho, hcon, calm_of hcalm, h'⟩

theorem G.ret (d n : Nat) (h : (runTo P d n c).retOf P f = some (res, hout)) : Goes P f c res hout := by
  refine run_goes d n ?_
  cases hs : runTo P d n c <;> rw [hs] at h <;> simp only [Step.retOf, reduceCtorEq] at h
  exact h

/-- A run is cut, and goes on from a configuration that is written out. -/
theorem G.at (d n : Nat) (co : List Co) (keep : List Nat) {c' : Cfg} (h : (runTo P d n c).cutOf co keep = some c') (h' : Goes P f c' res hout) : Goes P f c res hout := by
  refine run_goes d n ?_
  cases hs : runTo P d n c <;> rw [hs] at h <;> simp only [Step.cutOf, reduceCtorEq] at h
  · rename_i c0
    split at h
    · rename_i hm
      simp only [Option.some.injEq] at h
      subst h
      exact cut_goes (by unfold isRun at hm; split at hm <;> first | assumption | cases hm) co keep h'
    · cases h
  · rename_i c0
    split at h
    · rename_i hm
      simp only [Option.some.injEq] at h
      subst h
      exact cut_goes (by unfold isRun at hm; split at hm <;> first | assumption | cases hm) co keep h'
    · cases h

end

/-! ### loops as plain functions -/

def iterN {S T : Type} (b : S → Option (S ⊕ T)) : Nat → S → Option T
  | 0, _ => none
  | n + 1, s => match b s with
    | none => none
    | some (.inl s') => iterN b n s'
    | some (.inr t) => some t

theorem iterN_mono {S T : Type} {b : S → Option (S ⊕ T)} : ∀ (n m : Nat) (s : S) (t : T), iterN b n s = some t → n ≤ m → iterN b m s = some t
  | 0, m, s, t, h, _ => by simp [iterN] at h
  | n + 1, m, s, t, h, hm => by
    obtain ⟨m, rfl⟩ : ∃ k, m = k + 1 := ⟨m - 1, by omega⟩
    simp only [iterN] at h ⊢
    split at h
    · cases h
    · rename_i s' hb; rw [hb] at *; exact iterN_mono n m s' t h (by omega)
    · rename_i t' hb; rw [hb] at *; exact h

/-- A loop: 'b' tells a round: on with a state, or out with a value. Short runs are evaluated. -/
noncomputable def iter {S T : Type} (b : S → Option (S ⊕ T)) (s : S) : Option T :=
  match iterN b 512 s with
  | some t => some t
  | none => open Classical in if h : ∃ t n, iterN b n s = some t then some (Classical.choose h) else none

theorem iter_some {S T : Type} {b : S → Option (S ⊕ T)} {s : S} {t : T} : iter b s = some t ↔ ∃ n, iterN b n s = some t := by
  unfold iter
  have same : ∀ n m t t', iterN b n s = some t → iterN b m s = some t' → t = t' := fun n m t t' hn hm => by
    have h1 := iterN_mono n (max n m) s t hn (by omega)
    have h2 := iterN_mono m (max n m) s t' hm (by omega)
    rw [h1] at h2
    exact Option.some.inj h2
  constructor
  · intro h
    split at h
    · rename_i t' ht
      simp only [Option.some.injEq] at h
      subst h
      exact ⟨_, ht⟩
    · split at h
      · rename_i hx
        simp only [Option.some.injEq] at h
        subst h
        exact Classical.choose_spec hx
      · cases h
  · rintro ⟨n, hn⟩
    split
    · rename_i t' ht
      exact congrArg some (same _ _ _ _ ht hn)
    · have hx : ∃ t n, iterN b n s = some t := ⟨t, n, hn⟩
      rw [dif_pos hx]
      obtain ⟨m, hm⟩ := Classical.choose_spec hx
      exact congrArg some (same _ _ _ _ hm hn)

theorem iter_inl {S T : Type} {b : S → Option (S ⊕ T)} {s s' : S} (h : b s = some (.inl s')) : iter b s = iter b s' := by
  apply Option.ext
  intro t
  rw [iter_some, iter_some]
  constructor
  · rintro ⟨n, hn⟩
    cases n with
    | zero => simp [iterN] at hn
    | succ n => simp only [iterN, h] at hn; exact ⟨n, hn⟩
  · rintro ⟨n, hn⟩
    exact ⟨n + 1, by simp only [iterN, h]; exact hn⟩

theorem iter_inr {S T : Type} {b : S → Option (S ⊕ T)} {s : S} {t : T} (h : b s = some (.inr t)) : iter b s = some t :=
  iter_some.mpr ⟨1, by simp [iterN, h]⟩

theorem iter_none {S T : Type} {b : S → Option (S ⊕ T)} {s : S} (h : b s = none) : iter b s = none := by
  cases hi : iter b s with
  | none => rfl
  | some t =>
    obtain ⟨n, hn⟩ := iter_some.mp hi
    cases n with
    | zero => simp [iterN] at hn
    | succ n => simp [iterN, h] at hn

/-- What a loop tells, by induction on its rounds. -/
theorem iter_ind {S T : Type} {b : S → Option (S ⊕ T)} {M : S → T → Prop} (hr : ∀ s t, b s = some (.inr t) → M s t) (hl : ∀ s s' t, b s = some (.inl s') → M s' t → M s t) {s : S} {t : T} (h : iter b s = some t) : M s t := by
  obtain ⟨n, hn⟩ := iter_some.mp h
  clear h
  induction n generalizing s with
  | zero => simp [iterN] at hn
  | succ n ih =>
    simp only [iterN] at hn
    split at hn
    · cases hn
    · rename_i s' hb; exact hl s s' t hb (ih hn)
    · rename_i t' hb; simp only [Option.some.injEq] at hn; subst hn; exact hr s t' hb

/-- A loop that ends: an invariant, a measure, what it tells. -/
theorem iter_ends {S T : Type} {b : S → Option (S ⊕ T)} (Inv : S → Prop) (m : S → Nat) {Q : S → T → Prop}
    (h : ∀ s, Inv s → (∃ s', b s = some (.inl s') ∧ Inv s' ∧ m s' < m s ∧ ∀ t, Q s' t → Q s t) ∨ ∃ t, b s = some (.inr t) ∧ Q s t) : ∀ s, Inv s → ∃ t, iter b s = some t ∧ Q s t := by
  intro s
  generalize hk : m s = k
  induction k using Nat.strongRecOn generalizing s with
  | ind k ih =>
    intro hi
    rcases h s hi with ⟨s', h1, h2, h3, h4⟩ | ⟨t, h1, h2⟩
    · obtain ⟨t, h5, h6⟩ := ih (m s') (by omega) s' rfl h2
      exact ⟨t, by rw [iter_inl h1]; exact h5, h4 t h6⟩
    · exact ⟨t, iter_inr h1, h2⟩

/-- A loop of the program, as 'iter' tells it. -/
theorem G.loop {P : Program} {f : Nat} {res : AV} {hout : List AO} {S T : Type} (H : S → Cfg) (b : S → Option (S ⊕ T)) (K : T → Prop)
    (hround : ∀ s x, b s = some x → (match x with | .inl s' => Goes P f (H s') res hout | .inr t => K t) → Goes P f (H s) res hout) {s : S} {t : T} (h : iter b s = some t) (hK : K t) : Goes P f (H s) res hout := by
  revert hK
  exact iter_ind (M := fun s t => K t → Goes P f (H s) res hout) (fun s t hb hK => hround s (.inr t) hb hK) (fun s s' t hb ih hK => hround s (.inl s') hb (ih hK)) h

end Go.Cellar

/- Rules by which a plain function's text is followed beside the run. No condition. -/
set_option linter.unusedVariables false
namespace Go.Cellar
open Go

/-- The todo behind the first half of a function's n-th sequence, in the order of the text. -/
def seqFrom : Code → List Item → Nat → Nat ⊕ List Item
  | .seq _ b, k, 0 => .inr (.code b :: k)
  | .seq a b, k, n + 1 => match seqFrom a (.code b :: k) n with
    | .inr t => .inr t
    | .inl n' => seqFrom b k n'
  | .cond _ a b, k, n => match seqFrom a k n with
    | .inr t => .inr t
    | .inl n' => seqFrom b k n'
  | .block id b, k, n => seqFrom b (.inBlock id :: k) n
  | .loop b, k, n => seqFrom b (.inLoop b :: k) n
  | .scope b, k, n => seqFrom b (.inScope b :: k) n
  | _, _, n => .inl n

def seqTodo (P : Program) (f n : Nat) : List Item :=
  match P.funcs[f]? with
  | some fn => match fn.body with
    | some c => match seqFrom c [] n with
      | .inr t => t
      | .inl _ => []
    | none => []
  | none => []

def Step.isNext : Step → Bool
  | .next _ => true
  | _ => false

def Step.isLoop : Step → Bool
  | .loop _ => true
  | _ => false

abbrev jj : AV := AV.junk

/-- 'Goes', as a thing that does not unfold by itself. -/
structure Walk (P : Program) (f : Nat) (c : Cfg) (res : AV) (hout : List AO) : Prop where
  it : Goes P f c res hout

section
variable {P : Program} {f : Nat} {res : AV} {hout : List AO} {c : Cfg} {α β : Type}

theorem W.next (d n : Nat) (h : (runTo P d n c).isNext = true) (h' : Walk P f (runTo P d n c).cfg res hout) : Walk P f c res hout := by
  refine ⟨run_goes d n ?_⟩
  replace h' := h'.it
  cases hs : runTo P d n c <;> rw [hs] at h h' <;> simp only [Step.isNext, reduceCtorEq] at h
  exact h'

/-- Over a loop's head, as it stands. -/
theorem W.over (d n : Nat) (h : (runTo P d n c).isLoop = true) (h' : Walk P f (runTo P d n c).cfg res hout) : Walk P f c res hout := by
  refine ⟨run_goes d n ?_⟩
  replace h' := h'.it
  cases hs : runTo P d n c <;> rw [hs] at h h' <;> simp only [Step.isLoop, Bool.false_eq_true] at h
  exact h'

theorem W.cond (d n : Nat) {b : Bool} {x y : Option α} {z : Option α} (h : (bif b then x else y) = z) (hs : (runTo P d n c).condOf = some b) (ht : x = z → Walk P f (runTo P d n c).cfg res hout) (hf : y = z → Walk P f (runTo P d n c).cfg2 res hout) : Walk P f c res hout :=
  ⟨G.cond d n hs (fun hb => (ht (by rw [hb] at h; exact h)).it) (fun hb => (hf (by rw [hb] at h; exact h)).it)⟩

/-- Two ways that come to one: where it isn't known which is taken. -/
def both {α : Type} [DecidableEq α] (x y : Option α) : Option α := if x = y then x else none

/-- The first way may be taken only if p. -/
def mayb {α : Type} [DecidableEq α] (p : Bool) (x y : Option α) : Option α := bif p then both x y else y

theorem W.mayb [DecidableEq α] (d n : Nat) {p : Bool} {x y : Option α} {r : α} (h : mayb p x y = some r) (hs : (runTo P d n c).bothOf = some p) (ht : x = some r → Walk P f (runTo P d n c).cfg res hout) (hf : y = some r → Walk P f (runTo P d n c).cfg2 res hout) : Walk P f c res hout := by
  unfold Go.Cellar.mayb at h
  refine ⟨G.both d n hs (fun hp => ?_) ?_⟩
  · subst hp
    simp only [cond_true, Go.Cellar.both] at h
    split at h
    · exact (ht h).it
    · cases h
  · cases p with
    | false => exact (hf h).it
    | true =>
      simp only [cond_true, Go.Cellar.both] at h
      split at h
      · rename_i e; exact (hf (e ▸ h)).it
      · cases h

theorem W.bothNo (d n : Nat) (hs : (runTo P d n c).bothOf = some false) (hf : Walk P f (runTo P d n c).cfg2 res hout) : Walk P f c res hout :=
  ⟨G.both d n hs (fun hp => nomatch hp) hf.it⟩

theorem W.yes (d n : Nat) (hs : (runTo P d n c).condOf = some true) (ht : Walk P f (runTo P d n c).cfg res hout) : Walk P f c res hout :=
  ⟨G.cond d n hs (fun _ => ht.it) (fun hb => nomatch hb)⟩

theorem W.no (d n : Nat) (hs : (runTo P d n c).condOf = some false) (ht : Walk P f (runTo P d n c).cfg2 res hout) : Walk P f c res hout :=
  ⟨G.cond d n hs (fun hb => nomatch hb) (fun _ => ht.it)⟩

theorem W.need (d n : Nat) {p : Prop} (h : (runTo P d n c).needOf = some p) (hp : p) (h' : Walk P f (runTo P d n c).cfg res hout) : Walk P f c res hout :=
  ⟨G.need d n h hp h'.it⟩

theorem W.needT (d n : Nat) {p : Prop} [Decidable p] {x : Option α} {r : α} (h : (if p then x else none) = some r) (hs : (runTo P d n c).needOf = some p) (h' : x = some r → Walk P f (runTo P d n c).cfg res hout) : Walk P f c res hout := by
  by_cases hp : p
  · rw [if_pos hp] at h; exact W.need d n hs hp (h' h)
  · rw [if_neg hp] at h; cases h

theorem W.call (d n : Nat) {g : Nat} {args : List AV} {hin : List AO} {r : AV} {ho : List AO} (h : (runTo P d n c).callOf = some (g, args, hin)) (hcon : Con P g args hin r ho) (hcalm : (runTo P d n c).site.calmB r ho = true)
    (h' : Walk P f ((runTo P d n c).site.resume r ho) res hout) : Walk P f c res hout :=
  ⟨G.call d n h hcon hcalm h'.it⟩

theorem W.at (d n : Nat) (co : List Co) (keep : List Nat) {c' : Cfg} (h : (runTo P d n c).cutOf co keep = some c') (h' : Walk P f c' res hout) : Walk P f c res hout :=
  ⟨G.at d n co keep h h'.it⟩

theorem W.bind {x : Option α} {y : α → Option β} {r : β} {Z : Prop} (h : x.bind y = some r) (k : ∀ a, x = some a → y a = some r → Z) : Z := by
  cases hx : x with
  | none => rw [hx] at h; cases h
  | some a => rw [hx] at h; exact k a hx h

theorem W.inl {α' : Type} {g1 : α → β} {g2 : α' → β} {a : α} {z : β} (h : Sum.elim g1 g2 (.inl a) = z) : g1 a = z := h
theorem W.inr {α' : Type} {g1 : α → β} {g2 : α' → β} {a : α'} {z : β} (h : Sum.elim g1 g2 (.inr a) = z) : g2 a = z := h
theorem W.elimL {α' : Type} {g1 : α → Prop} {g2 : α' → Prop} {a : α} (h : g1 a) : Sum.elim g1 g2 (.inl a) := h
theorem W.elimR {α' : Type} {g1 : α → Prop} {g2 : α' → Prop} {a : α'} (h : g2 a) : Sum.elim g1 g2 (.inr a) := h

theorem W.retK (d n : Nat) {resF : α → AV} {outF : α → List AO} {t r : α} (h : r = t) (hs : (runTo P d n c).retOf P f = some (resF t, outF t)) : Walk P f c (resF r) (outF r) := by
  subst h; exact ⟨G.ret d n hs⟩

theorem W.retT (d n : Nat) {resF : α → AV} {outF : α → List AO} {t r : α} (h : some t = some r) (hs : (runTo P d n c).retOf P f = some (resF t, outF t)) : Walk P f c (resF r) (outF r) :=
  W.retK d n (Option.some.inj h).symm hs

/-- A function's end without a 'return'. -/
theorem W.endK {resF : α → AV} {outF : α → List AO} {t r : α} (h : r = t) (hs : (astep P c).retOf P f = some (resF t, outF t)) : Walk P f c (resF r) (outF r) := by
  subst h
  refine ⟨step_goes ?_⟩
  cases hs' : astep P c <;> rw [hs'] at hs <;> simp only [Step.retOf, reduceCtorEq] at hs
  exact hs

theorem W.endT {resF : α → AV} {outF : α → List AO} {t r : α} (h : some t = some r) (hs : (astep P c).retOf P f = some (resF t, outF t)) : Walk P f c (resF r) (outF r) :=
  W.endK (Option.some.inj h).symm hs

theorem W.join {x : Option α} {y : α → Option β} {r : β} {Z : Prop} (KP : α → Prop) (h : x.bind y = some r) (K : ∀ t, y t = some r → KP t) (body : ∀ t, x = some t → KP t → Z) : Z :=
  W.bind h fun t hx hy => body t hx (K t hy)

theorem W.stop {v t : α} {KP : α → Prop} {Z : Prop} (h : some v = some t) (K : KP t) (go : KP v → Z) : Z := by
  cases h; exact go K

theorem W.loop {S T : Type} (H : S → Cfg) (KP : T → Prop) {b : S → Option (S ⊕ T)} {init : S} {y : T → Option β} {r : β} (h : (iter b init).bind y = some r) (K : ∀ t, y t = some r → KP t)
    (round : ∀ s x, b s = some x → Sum.elim (fun s' => Walk P f (H s') res hout) KP x → Walk P f (H s) res hout) : Walk P f (H init) res hout :=
  W.bind h fun t hx hy => ⟨G.loop H b KP (fun s x hb hx => (round s x hb (by cases x with | inl s' => exact ⟨hx⟩ | inr t => exact hx)).it) hx (K t hy)⟩

def hasBody (P : Program) (f : Nat) : Bool :=
  match P.funcs[f]? with
  | some fn => match fn.body with
    | some _ => true
    | none => false
  | none => false

theorem W.con {args : List AV} {hin : List AO} (hb : hasBody P f = true) (h : Walk P f (startCfg P f args hin) res hout) : Con P f args hin res hout := by
  replace h := h.it
  unfold hasBody at hb
  split at hb
  · rename_i fn hfn
    split at hb
    · rename_i c hc; exact Con.of hfn hc h
    · cases hb
  · cases hb

end
end Go.Cellar
