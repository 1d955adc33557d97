/- Rules by which a plain function's text is followed beside the run. No condition. -/
import Derived.Test.YtlhpgbaclbkjiaaDoorAbs20
set_option linter.unusedVariables false
namespace Go.Cellar
open Go

/-- The todo behind the first half of a function's n-th sequence, in the order of the text. -/
def seqFrom : Code → List Item → Nat → Nat ⊕ List Item
  | .seq _ b, k, 0 => .inr (.code b :: k)
  | .seq a b, k, n + 1 => match seqFrom a (.code b :: k) n with
    | .inr t => .inr t
    | .inl n' => seqFrom b k n'
  | .cond _ a b, k, n => match seqFrom a k n with
    | .inr t => .inr t
    | .inl n' => seqFrom b k n'
  | .block id b, k, n => seqFrom b (.inBlock id :: k) n
  | .loop b, k, n => seqFrom b (.inLoop b :: k) n
  | .scope b, k, n => seqFrom b (.inScope b :: k) n
  | _, _, n => .inl n

def seqTodo (P : Program) (f n : Nat) : List Item :=
  match P.funcs[f]? with
  | some fn => match fn.body with
    | some c => match seqFrom c [] n with
      | .inr t => t
      | .inl _ => []
    | none => []
  | none => []

def Step.isNext : Step → Bool
  | .next _ => true
  | _ => false

abbrev jj : AV := AV.junk

/-- 'Goes', as a thing that does not unfold by itself. -/
structure Walk (P : Program) (f : Nat) (c : Cfg) (res : AV) (hout : List AO) : Prop where
  it : Goes P f c res hout

section
variable {P : Program} {f : Nat} {res : AV} {hout : List AO} {c : Cfg} {α β : Type}

theorem W.next (d n : Nat) (h : (runTo P d n c).isNext = true) (h' : Walk P f (runTo P d n c).cfg res hout) : Walk P f c res hout := by
  refine ⟨run_goes d n ?_⟩
  replace h' := h'.it
  cases hs : runTo P d n c <;> rw [hs] at h h' <;> simp only [Step.isNext, reduceCtorEq] at h
  exact h'

theorem W.cond (d n : Nat) {b : Bool} {x y : Option α} {z : Option α} (h : (bif b then x else y) = z) (hs : (runTo P d n c).condOf = some b) (ht : x = z → Walk P f (runTo P d n c).cfg res hout) (hf : y = z → Walk P f (runTo P d n c).cfg2 res hout) : Walk P f c res hout :=
  ⟨G.cond d n hs (fun hb => (ht (by rw [hb] at h; exact h)).it) (fun hb => (hf (by rw [hb] at h; exact h)).it)⟩

/-- Two ways that come to one: where it isn't known which is taken. -/
def both {α : Type} [DecidableEq α] (x y : Option α) : Option α := if x = y then x else none

/-- The first way may be taken only if p. -/
def mayb {α : Type} [DecidableEq α] (p : Bool) (x y : Option α) : Option α := bif p then both x y else y

theorem W.mayb [DecidableEq α] (d n : Nat) {p : Bool} {x y : Option α} {r : α} (h : mayb p x y = some r) (hs : (runTo P d n c).bothOf = some p) (ht : x = some r → Walk P f (runTo P d n c).cfg res hout) (hf : y = some r → Walk P f (runTo P d n c).cfg2 res hout) : Walk P f c res hout := by
  unfold Go.Cellar.mayb at h
  refine ⟨G.both d n hs (fun hp => ?_) ?_⟩
  · subst hp
    simp only [cond_true, Go.Cellar.both] at h
    split at h
    · exact (ht h).it
    · cases h
  · cases p with
    | false => exact (hf h).it
    | true =>
      simp only [cond_true, Go.Cellar.both] at h
      split at h
      · rename_i e; exact (hf (e ▸ h)).it
      · cases h

theorem W.bothNo (d n : Nat) (hs : (runTo P d n c).bothOf = some false) (hf : Walk P f (runTo P d n c).cfg2 res hout) : Walk P f c res hout :=
  ⟨G.both d n hs (fun hp => nomatch hp) hf.it⟩

theorem W.yes (d n : Nat) (hs : (runTo P d n c).condOf = some true) (ht : Walk P f (runTo P d n c).cfg res hout) : Walk P f c res hout :=
  ⟨G.cond d n hs (fun _ => ht.it) (fun hb => nomatch hb)⟩

theorem W.no (d n : Nat) (hs : (runTo P d n c).condOf = some false) (ht : Walk P f (runTo P d n c).cfg2 res hout) : Walk P f c res hout :=
  ⟨G.cond d n hs (fun hb => nomatch hb) (fun _ => ht.it)⟩

theorem W.need (d n : Nat) {p : Prop} (h : (runTo P d n c).needOf = some p) (hp : p) (h' : Walk P f (runTo P d n c).cfg res hout) : Walk P f c res hout :=
  ⟨G.need d n h hp h'.it⟩

theorem W.needT (d n : Nat) {p : Prop} [Decidable p] {x : Option α} {r : α} (h : (if p then x else none) = some r) (hs : (runTo P d n c).needOf = some p) (h' : x = some r → Walk P f (runTo P d n c).cfg res hout) : Walk P f c res hout := by
  by_cases hp : p
  · rw [if_pos hp] at h; exact W.need d n hs hp (h' h)
  · rw [if_neg hp] at h; cases h

theorem W.call (d n : Nat) {g : Nat} {args : List AV} {hin : List AO} {r : AV} {ho : List AO} (h : (runTo P d n c).callOf = some (g, args, hin)) (hcon : Con P g args hin r ho) (hcalm : (runTo P d n c).site.calmB r ho = true)
    (h' : Walk P f ((runTo P d n c).site.resume r ho) res hout) : Walk P f c res hout :=
  ⟨G.call d n h hcon hcalm h'.it⟩

theorem W.at (d n : Nat) (co : List Co) (keep : List Nat) {c' : Cfg} (h : (runTo P d n c).cutOf co keep = some c') (h' : Walk P f c' res hout) : Walk P f c res hout :=
  ⟨G.at d n co keep h h'.it⟩

theorem W.bind {x : Option α} {y : α → Option β} {r : β} {Z : Prop} (h : x.bind y = some r) (k : ∀ a, x = some a → y a = some r → Z) : Z := by
  cases hx : x with
  | none => rw [hx] at h; cases h
  | some a => rw [hx] at h; exact k a hx h

theorem W.inl {α' : Type} {g1 : α → β} {g2 : α' → β} {a : α} {z : β} (h : Sum.elim g1 g2 (.inl a) = z) : g1 a = z := h
theorem W.inr {α' : Type} {g1 : α → β} {g2 : α' → β} {a : α'} {z : β} (h : Sum.elim g1 g2 (.inr a) = z) : g2 a = z := h
theorem W.elimL {α' : Type} {g1 : α → Prop} {g2 : α' → Prop} {a : α} (h : g1 a) : Sum.elim g1 g2 (.inl a) := h
theorem W.elimR {α' : Type} {g1 : α → Prop} {g2 : α' → Prop} {a : α'} (h : g2 a) : Sum.elim g1 g2 (.inr a) := h

theorem W.retK (d n : Nat) {resF : α → AV} {outF : α → List AO} {t r : α} (h : r = t) (hs : (runTo P d n c).retOf P f = some (resF t, outF t)) : Walk P f c (resF r) (outF r) := by
  subst h; exact ⟨G.ret d n hs⟩

theorem W.retT (d n : Nat) {resF : α → AV} {outF : α → List AO} {t r : α} (h : some t = some r) (hs : (runTo P d n c).retOf P f = some (resF t, outF t)) : Walk P f c (resF r) (outF r) :=
  W.retK d n (Option.some.inj h).symm hs

/-- A function's end without a 'return'. -/
theorem W.endK {resF : α → AV} {outF : α → List AO} {t r : α} (h : r = t) (hs : (astep P c).retOf P f = some (resF t, outF t)) : Walk P f c (resF r) (outF r) := by
  subst h
  refine ⟨step_goes ?_⟩
  cases hs' : astep P c <;> rw [hs'] at hs <;> simp only [Step.retOf, reduceCtorEq] at hs
  exact hs

theorem W.endT {resF : α → AV} {outF : α → List AO} {t r : α} (h : some t = some r) (hs : (astep P c).retOf P f = some (resF t, outF t)) : Walk P f c (resF r) (outF r) :=
  W.endK (Option.some.inj h).symm hs

theorem W.join {x : Option α} {y : α → Option β} {r : β} {Z : Prop} (KP : α → Prop) (h : x.bind y = some r) (K : ∀ t, y t = some r → KP t) (body : ∀ t, x = some t → KP t → Z) : Z :=
  W.bind h fun t hx hy => body t hx (K t hy)

theorem W.stop {v t : α} {KP : α → Prop} {Z : Prop} (h : some v = some t) (K : KP t) (go : KP v → Z) : Z := by
  cases h; exact go K

theorem W.loop {S T : Type} (H : S → Cfg) (KP : T → Prop) {b : S → Option (S ⊕ T)} {init : S} {y : T → Option β} {r : β} (h : (iter b init).bind y = some r) (K : ∀ t, y t = some r → KP t)
    (round : ∀ s x, b s = some x → Sum.elim (fun s' => Walk P f (H s') res hout) KP x → Walk P f (H s) res hout) : Walk P f (H init) res hout :=
  W.bind h fun t hx hy => ⟨G.loop H b KP (fun s x hb hx => (round s x hb (by cases x with | inl s' => exact ⟨hx⟩ | inr t => exact hx)).it) hx (K t hy)⟩

def hasBody (P : Program) (f : Nat) : Bool :=
  match P.funcs[f]? with
  | some fn => match fn.body with
    | some _ => true
    | none => false
  | none => false

theorem W.con {args : List AV} {hin : List AO} (hb : hasBody P f = true) (h : Walk P f (startCfg P f args hin) res hout) : Con P f args hin res hout := by
  replace h := h.it
  unfold hasBody at hb
  split at hb
  · rename_i fn hfn
    split at hb
    · rename_i c hc; exact Con.of hfn hc h
    · cases hb
  · cases hb

end
end Go.Cellar
