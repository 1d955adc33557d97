/- The rules that a lifted function's proof is made of, and loops as plain functions. No condition. -/
import Derived.Test.YtlhpgbaclbkjiaaDoorAbs19e
set_option linter.unusedVariables false
namespace Go.Cellar
open Go

section
variable {P : Program} {f : Nat} {res : AV} {hout : List AO} {c : Cfg}

theorem G.cond (d n : Nat) {b : Bool} (h : (runTo P d n c).condOf = some b) (ht : b = true → Goes P f (runTo P d n c).cfg res hout) (hf : b = false → Goes P f (runTo P d n c).cfg2 res hout) : Goes P f c res hout := by
  refine run_goes d n ?_
  cases hs : runTo P d n c <;> rw [hs] at h ht hf <;> simp only [Step.condOf, Option.some.injEq, reduceCtorEq] at h
  subst h
  rename_i b c1 c2
  cases b
  · exact hf rfl
  · exact ht rfl

theorem G.both (d n : Nat) {p : Bool} (h : (runTo P d n c).bothOf = some p) (ht : p = true → Goes P f (runTo P d n c).cfg res hout) (hf : Goes P f (runTo P d n c).cfg2 res hout) : Goes P f c res hout := by
  refine run_goes d n ?_
  cases hs : runTo P d n c <;> rw [hs] at h ht hf <;> simp only [Step.bothOf, Option.some.injEq, reduceCtorEq] at h
  subst h
  exact ⟨ht, hf⟩

theorem G.need (d n : Nat) {p : Prop} (h : (runTo P d n c).needOf = some p) (hp : p) (h' : Goes P f (runTo P d n c).cfg res hout) : Goes P f c res hout := by
  refine run_goes d n ?_
  cases hs : runTo P d n c <;> rw [hs] at h h' <;> simp only [Step.needOf, Option.some.injEq, reduceCtorEq] at h
  subst h
  exact ⟨hp, h'⟩

theorem calm_of {k : Site} {r : AV} {ho : List AO} (h : k.calmB r ho = true) : k.calm r ho := by
  unfold Site.calmB at h
  unfold Site.calm
  split
  · rename_i hm
    rw [hm] at h
    simp only [Bool.or_eq_true] at h
    exact h.imp (fun h => Nat.eq_of_beq_eq_true h) id
  · trivial

theorem G.call (d n : Nat) {g : Nat} {args : List AV} {hin : List AO} {r : AV} {ho : List AO} (h : (runTo P d n c).callOf = some (g, args, hin)) (hcon : Con P g args hin r ho) (hcalm : (runTo P d n c).site.calmB r ho = true)
    (h' : Goes P f ((runTo P d n c).site.resume r ho) res hout) : Goes P f c res hout := by
  refine run_goes d n ?_
  cases hs : runTo P d n c <;> rw [hs] at h h' hcalm <;> simp only [Step.callOf, Option.some.injEq, Prod.mk.injEq, reduceCtorEq] at h
  obtain ⟨rfl, rfl, rfl⟩ := h
  exact ⟨r, ho, hcon, calm_of hcalm, h'⟩

theorem G.ret (d n : Nat) (h : (runTo P d n c).retOf P f = some (res, hout)) : Goes P f c res hout := by
  refine run_goes d n ?_
  cases hs : runTo P d n c <;> rw [hs] at h <;> simp only [Step.retOf, reduceCtorEq] at h
  exact h

/-- A run is cut, and goes on from a configuration that is written out. -/
theorem G.at (d n : Nat) (co : List Co) (keep : List Nat) {c' : Cfg} (h : (runTo P d n c).cutOf co keep = some c') (h' : Goes P f c' res hout) : Goes P f c res hout := by
  refine run_goes d n ?_
  cases hs : runTo P d n c <;> rw [hs] at h <;> simp only [Step.cutOf, reduceCtorEq] at h
  · rename_i c0
    split at h
    · rename_i hm
      simp only [Option.some.injEq] at h
      subst h
      exact cut_goes (by unfold isRun at hm; split at hm <;> first | assumption | cases hm) co keep h'
    · cases h
  · rename_i c0
    split at h
    · rename_i hm
      simp only [Option.some.injEq] at h
      subst h
      exact cut_goes (by unfold isRun at hm; split at hm <;> first | assumption | cases hm) co keep h'
    · cases h

end

/-! ### loops as plain functions -/

def iterN {S T : Type} (b : S → Option (S ⊕ T)) : Nat → S → Option T
  | 0, _ => none
  | n + 1, s => match b s with
    | none => none
    | some (.inl s') => iterN b n s'
    | some (.inr t) => some t

theorem iterN_mono {S T : Type} {b : S → Option (S ⊕ T)} : ∀ (n m : Nat) (s : S) (t : T), iterN b n s = some t → n ≤ m → iterN b m s = some t
  | 0, m, s, t, h, _ => by simp [iterN] at h
  | n + 1, m, s, t, h, hm => by
    obtain ⟨m, rfl⟩ : ∃ k, m = k + 1 := ⟨m - 1, by omega⟩
    simp only [iterN] at h ⊢
    split at h
    · cases h
    · rename_i s' hb; rw [hb] at *; exact iterN_mono n m s' t h (by omega)
    · rename_i t' hb; rw [hb] at *; exact h

/-- A loop: 'b' tells a round: on with a state, or out with a value. Short runs are evaluated. -/
noncomputable def iter {S T : Type} (b : S → Option (S ⊕ T)) (s : S) : Option T :=
  match iterN b 512 s with
  | some t => some t
  | none => open Classical in if h : ∃ t n, iterN b n s = some t then some (Classical.choose h) else none

theorem iter_some {S T : Type} {b : S → Option (S ⊕ T)} {s : S} {t : T} : iter b s = some t ↔ ∃ n, iterN b n s = some t := by
  unfold iter
  have same : ∀ n m t t', iterN b n s = some t → iterN b m s = some t' → t = t' := fun n m t t' hn hm => by
    have h1 := iterN_mono n (max n m) s t hn (by omega)
    have h2 := iterN_mono m (max n m) s t' hm (by omega)
    rw [h1] at h2
    exact Option.some.inj h2
  constructor
  · intro h
    split at h
    · rename_i t' ht
      simp only [Option.some.injEq] at h
      subst h
      exact ⟨_, ht⟩
    · split at h
      · rename_i hx
        simp only [Option.some.injEq] at h
        subst h
        exact Classical.choose_spec hx
      · cases h
  · rintro ⟨n, hn⟩
    split
    · rename_i t' ht
      exact congrArg some (same _ _ _ _ ht hn)
    · have hx : ∃ t n, iterN b n s = some t := ⟨t, n, hn⟩
      rw [dif_pos hx]
      obtain ⟨m, hm⟩ := Classical.choose_spec hx
      exact congrArg some (same _ _ _ _ hm hn)

theorem iter_inl {S T : Type} {b : S → Option (S ⊕ T)} {s s' : S} (h : b s = some (.inl s')) : iter b s = iter b s' := by
  apply Option.ext
  intro t
  rw [iter_some, iter_some]
  constructor
  · rintro ⟨n, hn⟩
    cases n with
    | zero => simp [iterN] at hn
    | succ n => simp only [iterN, h] at hn; exact ⟨n, hn⟩
  · rintro ⟨n, hn⟩
    exact ⟨n + 1, by simp only [iterN, h]; exact hn⟩

theorem iter_inr {S T : Type} {b : S → Option (S ⊕ T)} {s : S} {t : T} (h : b s = some (.inr t)) : iter b s = some t :=
  iter_some.mpr ⟨1, by simp [iterN, h]⟩

theorem iter_none {S T : Type} {b : S → Option (S ⊕ T)} {s : S} (h : b s = none) : iter b s = none := by
  cases hi : iter b s with
  | none => rfl
  | some t =>
    obtain ⟨n, hn⟩ := iter_some.mp hi
    cases n with
    | zero => simp [iterN] at hn
    | succ n => simp [iterN, h] at hn

/-- What a loop tells, by induction on its rounds. -/
theorem iter_ind {S T : Type} {b : S → Option (S ⊕ T)} {M : S → T → Prop} (hr : ∀ s t, b s = some (.inr t) → M s t) (hl : ∀ s s' t, b s = some (.inl s') → M s' t → M s t) {s : S} {t : T} (h : iter b s = some t) : M s t := by
  obtain ⟨n, hn⟩ := iter_some.mp h
  clear h
  induction n generalizing s with
  | zero => simp [iterN] at hn
  | succ n ih =>
    simp only [iterN] at hn
    split at hn
    · cases hn
    · rename_i s' hb; exact hl s s' t hb (ih hn)
    · rename_i t' hb; simp only [Option.some.injEq] at hn; subst hn; exact hr s t' hb

/-- A loop that ends: an invariant, a measure, what it tells. -/
theorem iter_ends {S T : Type} {b : S → Option (S ⊕ T)} (Inv : S → Prop) (m : S → Nat) {Q : S → T → Prop}
    (h : ∀ s, Inv s → (∃ s', b s = some (.inl s') ∧ Inv s' ∧ m s' < m s ∧ ∀ t, Q s' t → Q s t) ∨ ∃ t, b s = some (.inr t) ∧ Q s t) : ∀ s, Inv s → ∃ t, iter b s = some t ∧ Q s t := by
  intro s
  generalize hk : m s = k
  induction k using Nat.strongRecOn generalizing s with
  | ind k ih =>
    intro hi
    rcases h s hi with ⟨s', h1, h2, h3, h4⟩ | ⟨t, h1, h2⟩
    · obtain ⟨t, h5, h6⟩ := ih (m s') (by omega) s' rfl h2
      exact ⟨t, by rw [iter_inl h1]; exact h5, h4 t h6⟩
    · exact ⟨t, iter_inr h1, h2⟩

/-- A loop of the program, as 'iter' tells it. -/
theorem G.loop {P : Program} {f : Nat} {res : AV} {hout : List AO} {S T : Type} (H : S → Cfg) (b : S → Option (S ⊕ T)) (K : T → Prop)
    (hround : ∀ s x, b s = some x → (match x with | .inl s' => Goes P f (H s') res hout | .inr t => K t) → Goes P f (H s) res hout) {s : S} {t : T} (h : iter b s = some t) (hK : K t) : Goes P f (H s) res hout := by
  revert hK
  exact iter_ind (M := fun s t => K t → Goes P f (H s) res hout) (fun s t hb hK => hround s (.inr t) hb hK) (fun s s' t hb ih hK => hround s (.inl s') hb (ih hK)) h

end Go.Cellar
