/- What an abstract value says of the machine's memory, and how that outlives changes elsewhere. No condition. -/
import Derived.Test.YtjdjmbogopadaaaGreatDoorAbs1
import Derived.Laws.AppendOwn

namespace Go.Cellar
open Go

def CellsAt (w : World) (b off : Nat) (vs : List Value) : Prop :=
  ∀ (j : Nat) (h : j < vs.length), w.cell? ⟨b, off + j, none⟩ = some vs[j]

def RepT (w : World) (ok : Nat → Prop) : (t : Ty) → t.T → List Value → Prop
  | .int k, n, vs => vs = [.int k n]
  | .bool, b, vs => vs = [.bool b]
  | .str, s, vs => vs = [.string ⟨s.toArray⟩]
  | .list t, l, vs => ∃ (ad : Option Addr) (cap : Nat), vs = [.slice ad l.length cap] ∧ l.length ≤ cap ∧
      ∀ (i : Nat) (h : i < l.length), ∃ a cs, ad = some a ∧ a.spot = none ∧ ok a.block ∧ cs.length = t.size ∧ CellsAt w a.block (a.off + i * t.size) cs ∧ RepT w ok t l[i] cs
  | .prod a b, x, vs => ∃ va vb, vs = va ++ vb ∧ RepT w ok a x.1 va ∧ RepT w ok b x.2 vb
  | .one a, x, vs => RepT w ok a x vs

theorem Ty.size_pos : ∀ t : Ty, 0 < t.size
  | .int _ | .bool | .str | .list _ => by simp [Ty.size]
  | .prod a b => by have := Ty.size_pos a; simp [Ty.size]; omega
  | .one a => by have := Ty.size_pos a; simp [Ty.size]; omega

theorem RepT.length {w : World} {ok : Nat → Prop} : ∀ (t : Ty) (x : t.T) (vs : List Value), RepT w ok t x vs → vs.length = t.size
  | .int _, _, _, h => by simp only [RepT] at h; simp [h, Ty.size]
  | .bool, _, _, h => by simp only [RepT] at h; simp [h, Ty.size]
  | .str, _, _, h => by simp only [RepT] at h; simp [h, Ty.size]
  | .list _, _, _, h => by simp only [RepT] at h; obtain ⟨_, _, rfl, _⟩ := h; simp [Ty.size]
  | .prod a b, x, vs, h => by
    simp only [RepT] at h
    obtain ⟨va, vb, rfl, ha, hb⟩ := h
    simp [Ty.size, RepT.length a _ _ ha, RepT.length b _ _ hb]
  | .one a, x, vs, h => by simp only [RepT] at h; simpa [Ty.size] using RepT.length a _ _ h

/-- Blocks that may be read stay readable, as they are. -/
def OkLe (w : World) (ok : Nat → Prop) (w' : World) (ok' : Nat → Prop) : Prop :=
  ∀ b, ok b → b < w.heap.size → ok' b ∧ w'.heap[b]? = w.heap[b]?

theorem OkLe.refl (w : World) (ok : Nat → Prop) : OkLe w ok w ok := fun _ h _ => ⟨h, rfl⟩

theorem lt_of_cell {w : World} {a : Addr} {v : Value} (h : w.cell? a = some v) : a.block < w.heap.size := by
  unfold World.cell? at h
  cases hb : w.heap[a.block]? with
  | none => simp [hb] at h
  | some o => exact (Array.getElem?_eq_some_iff.mp hb).1

theorem CellsAt.mono {w w' : World} {b off : Nat} {vs : List Value} (h : CellsAt w b off vs) (hb : w'.heap[b]? = w.heap[b]?) : CellsAt w' b off vs := by
  intro j hj
  rw [World.cell?_of_block (w := w) hb]
  exact h j hj

theorem CellsAt.lt {w : World} {b off : Nat} {vs : List Value} (h : CellsAt w b off vs) (h0 : 0 < vs.length) : b < w.heap.size :=
  lt_of_cell (h 0 h0)

theorem RepT.mono {w w' : World} {ok ok' : Nat → Prop} (hle : OkLe w ok w' ok') : ∀ (t : Ty) (x : t.T) (vs : List Value), RepT w ok t x vs → RepT w' ok' t x vs
  | .int _, _, _, h => by simp only [RepT] at h ⊢; exact h
  | .bool, _, _, h => by simp only [RepT] at h ⊢; exact h
  | .str, _, _, h => by simp only [RepT] at h ⊢; exact h
  | .list t, l, _, h => by
    simp only [RepT] at h ⊢
    obtain ⟨ad, cap, rfl, hc, hi⟩ := h
    refine ⟨ad, cap, rfl, hc, fun i hl => ?_⟩
    obtain ⟨a, cs, ha, hs, hok, hlen, hcs, hr⟩ := hi i hl
    have hlt : a.block < w.heap.size := hcs.lt (by rw [hlen]; exact Ty.size_pos t)
    obtain ⟨hok', hb⟩ := hle _ hok hlt
    exact ⟨a, cs, ha, hs, hok', hlen, hcs.mono hb, RepT.mono hle t _ _ hr⟩
  | .prod a b, x, vs, h => by
    simp only [RepT] at h ⊢
    obtain ⟨va, vb, rfl, ha, hb⟩ := h
    exact ⟨va, vb, rfl, RepT.mono hle a _ _ ha, RepT.mono hle b _ _ hb⟩
  | .one a, x, vs, h => by simp only [RepT] at h ⊢; exact RepT.mono hle a _ _ h

/-- All that a value's meaning hangs on. -/
structure Env where
  w : World
  ok : Nat → Prop
  bl : List (Option Nat)
  hp : List AO

/-- An own list's or array's element size and length. -/
def rowShape (hp : List AO) (r : Nat) : Option (Nat × Nat) :=
  match hp[r]? with
  | some (.row t l) => some (t.size, l.length)
  | some (.arr t l) => some (t.size, l.length)
  | some (.buf _ l) => some (1, l.length)
  | _ => none

def blockSize (w : World) (b : Nat) : Nat :=
  match w.heap[b]? with
  | some (.cells vs _ _) => vs.size
  | _ => 0

def ViewRep (E : Env) (r lo : Nat) (hi : Option Nat) (v : Value) : Prop :=
  ∃ sz n, rowShape E.hp r = some (sz, n) ∧ lo ≤ hi.getD n ∧ hi.getD n ≤ n ∧
    ∃ ad cap, v = .slice ad (hi.getD n - lo) cap ∧ hi.getD n - lo ≤ cap ∧
      (cap = 0 ∨ ∃ b, E.bl[r]? = some (some b) ∧ ad = some ⟨b, lo * sz, none⟩ ∧ (lo + cap) * sz ≤ blockSize E.w b)

mutual
def Rep (E : Env) : AV → Value → Prop
  | .junk, _ => True
  | .int k n, v => v = .int k n
  | .bool b, v => v = .bool b
  | .str s, v => v = .string ⟨s.toArray⟩
  | .list t l full, v => RepT E.w E.ok (.list t) l [v] ∧ (full = true → ∃ ad, v = .slice ad l.length l.length)
  | .nils, v => v = .slice none 0 0
  | .view r lo hi, v => ViewRep E r lo hi v
  | .ptr r off, v => ∃ b, E.bl[r]? = some (some b) ∧ v = .pointer (some ⟨b, off, none⟩)
  | .rptr r i off, v => ∃ b sz n, E.bl[r]? = some (some b) ∧ rowShape E.hp r = some (sz, n) ∧ v = .pointer (some ⟨b, i * sz + off, none⟩)
  | .iptr cs, v => ∃ a vs, v = .pointer (some a) ∧ a.spot = none ∧ (vs ≠ [] → E.ok a.block) ∧ CellsAt E.w a.block a.off vs ∧ AV.refsL cs = [] ∧ RepL E cs vs
  | .nilp, v => v = .pointer none
  | .func fn first caps, v => ∃ fs cs, v = .func fn fs cs ∧ RepL E first fs.toList ∧ RepL E caps cs.toList
  | .nilf, v => v = .nilFunc
  | .nili, v => v = .nilIface
  | .maybe p, v => ∃ b, v = .bool b ∧ (b = true → p = true)
  | .agg cs, v => ∃ vs, v = .agg vs ∧ RepL E cs vs.toList
  | .tup xs, v => ∃ vs, v = .tuple vs ∧ RepL E xs vs.toList
def RepL (E : Env) : List AV → List Value → Prop
  | [], vs => vs = []
  | a :: as, vs => ∃ v vs', vs = v :: vs' ∧ Rep E a v ∧ RepL E as vs'
end

theorem RepL.length {E : Env} : ∀ {as : List AV} {vs : List Value}, RepL E as vs → vs.length = as.length
  | [], _, h => by simp only [RepL] at h; simp [h]
  | a :: as, vs, h => by
    simp only [RepL] at h
    obtain ⟨v, vs', rfl, _, h2⟩ := h
    simp [RepL.length h2]

theorem RepL.get {E : Env} : ∀ {as : List AV} {vs : List Value}, RepL E as vs → ∀ (i : Nat) (h : i < as.length) (h' : i < vs.length), Rep E as[i] vs[i]
  | a :: as, vs, h, i, hi, hi' => by
    simp only [RepL] at h
    obtain ⟨v, vs', rfl, h1, h2⟩ := h
    cases i with
    | zero => exact h1
    | succ i => exact RepL.get h2 i (by simpa using hi) (by simpa using hi')

theorem RepL.append {E : Env} : ∀ {as bs : List AV} {vs us : List Value}, RepL E as vs → RepL E bs us → RepL E (as ++ bs) (vs ++ us)
  | [], bs, vs, us, h1, h2 => by simp only [RepL] at h1; subst h1; exact h2
  | a :: as, bs, vs, us, h1, h2 => by
    simp only [RepL] at h1
    obtain ⟨v, vs', rfl, h3, h4⟩ := h1
    exact ⟨v, vs' ++ us, rfl, h3, RepL.append h4 h2⟩

theorem RepL.take {E : Env} : ∀ {as : List AV} {vs : List Value} (n : Nat), RepL E as vs → RepL E (as.take n) (vs.take n)
  | [], vs, n, h => by simp only [RepL] at h; subst h; simp [RepL]
  | a :: as, vs, n, h => by
    simp only [RepL] at h
    obtain ⟨v, vs', rfl, h3, h4⟩ := h
    cases n with
    | zero => simp [RepL]
    | succ n => exact ⟨v, vs'.take n, by simp, h3, RepL.take n h4⟩

theorem RepL.drop {E : Env} : ∀ {as : List AV} {vs : List Value} (n : Nat), RepL E as vs → RepL E (as.drop n) (vs.drop n)
  | [], vs, n, h => by simp only [RepL] at h; subst h; simp [RepL]
  | a :: as, vs, n, h => by
    simp only [RepL] at h
    obtain ⟨v, vs', rfl, h3, h4⟩ := h
    cases n with
    | zero => exact ⟨v, vs', by simp, h3, h4⟩
    | succ n => simpa using RepL.drop n h4

theorem RepL.set {E : Env} : ∀ {as : List AV} {vs : List Value} (n : Nat) {a : AV} {v : Value}, RepL E as vs → Rep E a v → RepL E (as.set n a) (vs.set n v)
  | [], vs, n, a, v, h, _ => by simp only [RepL] at h; subst h; simp [RepL]
  | b :: as, vs, n, a, v, h, ha => by
    simp only [RepL] at h
    obtain ⟨u, vs', rfl, h3, h4⟩ := h
    cases n with
    | zero => exact ⟨v, vs', by simp, ha, h4⟩
    | succ n => exact ⟨u, vs'.set n v, by simp, h3, RepL.set n h4 ha⟩

theorem RepL.map {E : Env} {α : Type} (f : α → AV) (g : α → Value) (h : ∀ x, Rep E (f x) (g x)) : ∀ l : List α, RepL E (l.map f) (l.map g)
  | [] => by simp [RepL]
  | x :: l => ⟨g x, l.map g, rfl, h x, RepL.map f g h l⟩

theorem RepL.of_get {E : Env} : ∀ {as : List AV} {vs : List Value}, as.length = vs.length → (∀ (i : Nat) (h : i < as.length) (h' : i < vs.length), Rep E as[i] vs[i]) → RepL E as vs
  | [], vs, hl, _ => by cases vs with | nil => simp [RepL] | cons _ _ => simp at hl
  | a :: as, [], hl, _ => by simp at hl
  | a :: as, v :: vs, hl, h => ⟨v, vs, rfl, h 0 (by simp) (by simp), RepL.of_get (by simpa using hl) fun i h1 h2 => h (i + 1) (by simpa using h1) (by simpa using h2)⟩

theorem RepL.single {E : Env} {a : AV} {v : Value} (h : Rep E a v) : RepL E [a] [v] := ⟨v, [], rfl, h, by simp [RepL]⟩

/-- One operand, wherever it stands. -/
theorem RepL.getD {E : Env} {as : List AV} {vs : Array Value} (h : RepL E as vs.toList) (t : Nat) : Rep E (as.getD t .junk) (vs.getD t undef) := by
  have hl := h.length
  by_cases ht : t < as.length
  · have ht' : t < vs.toList.length := by omega
    have := h.get t ht ht'
    simp only [List.getD_eq_getElem?_getD, List.getElem?_eq_getElem ht, Option.getD_some]
    simpa [Array.getD, show t < vs.size by simpa using ht'] using this
  · have : as.getD t .junk = .junk := by simp [List.getD_eq_getElem?_getD, List.getElem?_eq_none (Nat.le_of_not_lt ht)]
    rw [this]; simp [Rep]

theorem AV.refsL_append : ∀ as bs : List AV, AV.refsL (as ++ bs) = AV.refsL as ++ AV.refsL bs
  | [], bs => by simp [AV.refsL]
  | a :: as, bs => by simp [AV.refsL, AV.refsL_append as bs]

theorem AV.refsL_drop (n : Nat) : ∀ as : List AV, AV.refsL as = [] → AV.refsL (as.drop n) = [] := by
  induction n with
  | zero => intro as h; simpa using h
  | succ n ih => intro as h; cases as with
    | nil => simp [AV.refsL]
    | cons a as => simp only [AV.refsL, List.append_eq_nil_iff] at h; simpa using ih as h.2

theorem AV.refsL_take (n : Nat) : ∀ as : List AV, AV.refsL as = [] → AV.refsL (as.take n) = [] := by
  induction n with
  | zero => intro as h; simp [AV.refsL]
  | succ n ih => intro as h; cases as with
    | nil => simp [AV.refsL]
    | cons a as => simp only [AV.refsL, List.append_eq_nil_iff] at h; simp [AV.refsL, h.1, ih as h.2]

/-! ### references replaced -/

structure SubOk (E E' : Env) (g : AV → AV) : Prop where
  ok : OkLe E.w E.ok E'.w E'.ok
  view : ∀ r lo hi v, Rep E (.view r lo hi) v → Rep E' (g (.view r lo hi)) v
  ptr : ∀ r off v, Rep E (.ptr r off) v → Rep E' (g (.ptr r off)) v
  rptr : ∀ r i off v, Rep E (.rptr r i off) v → Rep E' (g (.rptr r i off)) v

mutual
/-- A value without references, in an environment with more. -/
theorem Rep.plainMono {E E' : Env} (hle : OkLe E.w E.ok E'.w E'.ok) : ∀ (a : AV) (v : Value), AV.refs a = [] → Rep E a v → Rep E' a v
  | .junk, _, _, _ => by simp [Rep]
  | .int _ _, _, _, h => by simp only [Rep] at h ⊢; exact h
  | .bool _, _, _, h => by simp only [Rep] at h ⊢; exact h
  | .str _, _, _, h => by simp only [Rep] at h ⊢; exact h
  | .list t l full, v, _, h => by simp only [Rep] at h ⊢; exact ⟨RepT.mono hle _ _ _ h.1, h.2⟩
  | .nils, _, _, h => by simp only [Rep] at h ⊢; exact h
  | .view _ _ _, _, hr, _ => by simp [AV.refs] at hr
  | .ptr _ _, _, hr, _ => by simp [AV.refs] at hr
  | .rptr _ _ _, _, hr, _ => by simp [AV.refs] at hr
  | .iptr cs, _, _, h => by
    simp only [Rep] at h ⊢
    obtain ⟨a, vs, rfl, h1, h2, h3, h4, h5⟩ := h
    refine ⟨a, vs, rfl, h1, fun hne => ?_, ?_, h4, RepL.plainMono hle cs vs h4 h5⟩
    · have hlt := h3.lt (List.length_pos_iff.mpr hne)
      exact (hle _ (h2 hne) hlt).1
    · by_cases hne : vs = []
      · subst hne; intro j hj; simp at hj
      · exact h3.mono (hle _ (h2 hne) (h3.lt (List.length_pos_iff.mpr hne))).2
  | .nilp, _, _, h => by simp only [Rep] at h ⊢; exact h
  | .func _ f c, _, hr, h => by
    simp only [AV.refs, List.append_eq_nil_iff] at hr
    simp only [Rep] at h ⊢
    obtain ⟨fs, cs, rfl, h1, h2⟩ := h
    exact ⟨fs, cs, rfl, RepL.plainMono hle f _ hr.1 h1, RepL.plainMono hle c _ hr.2 h2⟩
  | .nilf, _, _, h => by simp only [Rep] at h ⊢; exact h
  | .nili, _, _, h => by simp only [Rep] at h ⊢; exact h
  | .maybe _, _, _, h => by simp only [Rep] at h ⊢; exact h
  | .agg cs, _, hr, h => by
    simp only [AV.refs] at hr
    simp only [Rep] at h ⊢
    obtain ⟨vs, rfl, h1⟩ := h
    exact ⟨vs, rfl, RepL.plainMono hle cs _ hr h1⟩
  | .tup cs, _, hr, h => by
    simp only [AV.refs] at hr
    simp only [Rep] at h ⊢
    obtain ⟨vs, rfl, h1⟩ := h
    exact ⟨vs, rfl, RepL.plainMono hle cs _ hr h1⟩
theorem RepL.plainMono {E E' : Env} (hle : OkLe E.w E.ok E'.w E'.ok) : ∀ (as : List AV) (vs : List Value), AV.refsL as = [] → RepL E as vs → RepL E' as vs
  | [], _, _, h => by simp only [RepL] at h ⊢; exact h
  | a :: as, vs, hr, h => by
    simp only [AV.refsL, List.append_eq_nil_iff] at hr
    simp only [RepL] at h ⊢
    obtain ⟨v, vs', rfl, h1, h2⟩ := h
    exact ⟨v, vs', rfl, Rep.plainMono hle a v hr.1 h1, RepL.plainMono hle as vs' hr.2 h2⟩
end

mutual
theorem Rep.sub {E E' : Env} {g : AV → AV} (hg : SubOk E E' g) : ∀ (a : AV) (v : Value), Rep E a v → Rep E' (a.sub g) v
  | .junk, _, _ => by simp [Rep, AV.sub]
  | .int k n, v, h => Rep.plainMono hg.ok (.int k n) v rfl h
  | .bool b, v, h => Rep.plainMono hg.ok (.bool b) v rfl h
  | .str s, v, h => Rep.plainMono hg.ok (.str s) v rfl h
  | .list t l full, v, h => Rep.plainMono hg.ok (.list t l full) v rfl h
  | .nils, v, h => Rep.plainMono hg.ok .nils v rfl h
  | .view r lo hi, v, h => by rw [AV.sub]; exact hg.view r lo hi v h
  | .ptr r off, v, h => by rw [AV.sub]; exact hg.ptr r off v h
  | .rptr r i off, v, h => by rw [AV.sub]; exact hg.rptr r i off v h
  | .iptr cs, v, h => Rep.plainMono hg.ok (.iptr cs) v rfl h
  | .nilp, v, h => Rep.plainMono hg.ok .nilp v rfl h
  | .func fn f c, _, h => by
    simp only [Rep] at h
    obtain ⟨fs, cs, rfl, h1, h2⟩ := h
    simp only [AV.sub, Rep]
    exact ⟨fs, cs, rfl, RepL.sub hg f _ h1, RepL.sub hg c _ h2⟩
  | .nilf, v, h => Rep.plainMono hg.ok .nilf v rfl h
  | .nili, v, h => Rep.plainMono hg.ok .nili v rfl h
  | .maybe p, v, h => Rep.plainMono hg.ok (.maybe p) v rfl h
  | .agg cs, _, h => by
    simp only [Rep] at h
    obtain ⟨vs, rfl, h1⟩ := h
    simp only [AV.sub, Rep]
    exact ⟨vs, rfl, RepL.sub hg cs _ h1⟩
  | .tup cs, _, h => by
    simp only [Rep] at h
    obtain ⟨vs, rfl, h1⟩ := h
    simp only [AV.sub, Rep]
    exact ⟨vs, rfl, RepL.sub hg cs _ h1⟩
theorem RepL.sub {E E' : Env} {g : AV → AV} (hg : SubOk E E' g) : ∀ (as : List AV) (vs : List Value), RepL E as vs → RepL E' (AV.subL g as) vs
  | [], _, h => by simp only [RepL] at h; simp [AV.subL, RepL, h]
  | a :: as, _, h => by
    simp only [RepL] at h
    obtain ⟨v, vs', rfl, h1, h2⟩ := h
    simp only [AV.subL, RepL]
    exact ⟨v, vs', rfl, Rep.sub hg a v h1, RepL.sub hg as vs' h2⟩
end

mutual
theorem AV.sub_id : ∀ a : AV, a.sub (fun v => v) = a
  | .junk | .int _ _ | .bool _ | .str _ | .list _ _ _ | .nils | .view _ _ _ | .ptr _ _ | .rptr _ _ _ | .iptr _ | .nilp | .nilf | .nili | .maybe _ => by simp [AV.sub]
  | .func fn f c => by simp [AV.sub, AV.subL_id f, AV.subL_id c]
  | .agg cs => by simp [AV.sub, AV.subL_id cs]
  | .tup cs => by simp [AV.sub, AV.subL_id cs]
theorem AV.subL_id : ∀ as : List AV, AV.subL (fun v => v) as = as
  | [] => by simp [AV.subL]
  | a :: as => by simp [AV.subL, AV.sub_id a, AV.subL_id as]
end

/-- More is known, nothing renamed. -/
structure EnvLe (E E' : Env) : Prop where
  ok : OkLe E.w E.ok E'.w E'.ok
  bl : ∀ (r b : Nat), E.bl[r]? = some (some b) → E'.bl[r]? = some (some b)
  sh : ∀ (r : Nat) (x : Nat × Nat), rowShape E.hp r = some x → rowShape E'.hp r = some x
  sz : ∀ (r b : Nat), E.bl[r]? = some (some b) → blockSize E.w b ≤ blockSize E'.w b

theorem EnvLe.subOk {E E' : Env} (h : EnvLe E E') : SubOk E E' (fun v => v) where
  ok := h.ok
  view := by
    intro r lo hi v hv
    simp only [Rep] at hv ⊢
    obtain ⟨sz, n, h1, h2, h3, ad, cap, h4, h5, h6⟩ := hv
    refine ⟨sz, n, h.sh _ _ h1, h2, h3, ad, cap, h4, h5, ?_⟩
    rcases h6 with h6 | ⟨b, hb, ha, hs⟩
    · exact .inl h6
    · exact .inr ⟨b, h.bl _ _ hb, ha, Nat.le_trans hs (h.sz _ _ hb)⟩
  ptr := by
    intro r off v hv
    simp only [Rep] at hv ⊢
    obtain ⟨b, hb, rfl⟩ := hv
    exact ⟨b, h.bl _ _ hb, rfl⟩
  rptr := by
    intro r i off v hv
    simp only [Rep] at hv ⊢
    obtain ⟨b, sz, n, hb, hs, rfl⟩ := hv
    exact ⟨b, sz, n, h.bl _ _ hb, h.sh _ _ hs, rfl⟩

theorem Rep.mono {E E' : Env} (h : EnvLe E E') {a : AV} {v : Value} (hr : Rep E a v) : Rep E' a v := by
  have := Rep.sub h.subOk a v hr
  rwa [AV.sub_id] at this

theorem RepL.mono {E E' : Env} (h : EnvLe E E') {as : List AV} {vs : List Value} (hr : RepL E as vs) : RepL E' as vs := by
  have := RepL.sub h.subOk as vs hr
  rwa [AV.subL_id] at this

/-! ### plain data as values -/

theorem Ty.refs_cells_aux : (t : Ty) → (x : t.T) → AV.refsL (t.cells x) = []
  | .int _, _ => by simp [Ty.cells, AV.refsL, AV.refs]
  | .bool, _ => by simp [Ty.cells, AV.refsL, AV.refs]
  | .str, _ => by simp [Ty.cells, AV.refsL, AV.refs]
  | .list _, _ => by simp [Ty.cells, AV.refsL, AV.refs]
  | .prod a b, x => by
    rw [Ty.cells, AV.refsL_append, Ty.refs_cells_aux a, Ty.refs_cells_aux b]; rfl
  | .one a, x => by rw [Ty.cells]; exact Ty.refs_cells_aux a x

end Go.Cellar

/- Plain data as cells and values; own lists; the heap's part of the invariant. No condition. -/
namespace Go.Cellar
open Go

theorem Ty.cells_length : ∀ (t : Ty) (x : t.T), (t.cells x).length = t.size
  | .int _, _ => by simp [Ty.cells, Ty.size]
  | .bool, _ => by simp [Ty.cells, Ty.size]
  | .str, _ => by simp [Ty.cells, Ty.size]
  | .list _, _ => by simp [Ty.cells, Ty.size]
  | .prod a b, x => by simp [Ty.cells, Ty.size, Ty.cells_length a, Ty.cells_length b]
  | .one a, x => by simp [Ty.cells, Ty.size, Ty.cells_length a]

/-- Data in cells, as abstract cells. -/
theorem RepT.toL {E : Env} : ∀ (t : Ty) (x : t.T) (vs : List Value), RepT E.w E.ok t x vs → RepL E (t.cells x) vs
  | .int _, _, _, h => by simp only [RepT] at h; subst h; exact RepL.single (by simp [Rep])
  | .bool, _, _, h => by simp only [RepT] at h; subst h; exact RepL.single (by simp [Rep])
  | .str, _, _, h => by simp only [RepT] at h; subst h; exact RepL.single (by simp [Rep])
  | .list t, l, vs, h => by
    have h' := h
    simp only [RepT] at h'
    obtain ⟨ad, cap, rfl, _⟩ := h'
    simp only [Ty.cells]
    exact RepL.single (by simp only [Rep]; exact ⟨h, by simp⟩)
  | .prod a b, x, vs, h => by
    simp only [RepT] at h
    obtain ⟨va, vb, rfl, ha, hb⟩ := h
    exact RepL.append (RepT.toL a _ _ ha) (RepT.toL b _ _ hb)
  | .one a, x, vs, h => by simp only [RepT] at h; exact RepT.toL a _ _ h

/-- Abstract cells read as data. -/
theorem RepL.take_of {E : Env} : ∀ (t : Ty) (cs : List AV) (vs : List Value) (x : t.T) (r : List AV), t.take cs = some (x, r) → RepL E cs vs →
    ∃ va vb, vs = va ++ vb ∧ RepT E.w E.ok t x va ∧ RepL E r vb
  | .int k, cs, vs, x, r, ht, h => by
    unfold Ty.take takeInt at ht
    split at ht
    · split at ht
      · rename_i hk; subst hk
        simp only [Option.some.injEq, Prod.mk.injEq] at ht
        obtain ⟨rfl, rfl⟩ := ht
        simp only [RepL, Rep] at h
        obtain ⟨v, vs', rfl, rfl, h2⟩ := h
        exact ⟨[_], vs', rfl, by simp [RepT], h2⟩
      · simp at ht
    · simp at ht
  | .bool, cs, vs, x, r, ht, h => by
    unfold Ty.take takeBool at ht
    split at ht
    · simp only [Option.some.injEq, Prod.mk.injEq] at ht
      obtain ⟨rfl, rfl⟩ := ht
      simp only [RepL, Rep] at h
      obtain ⟨v, vs', rfl, rfl, h2⟩ := h
      exact ⟨[_], vs', rfl, by simp [RepT], h2⟩
    · simp at ht
  | .str, cs, vs, x, r, ht, h => by
    unfold Ty.take takeStr at ht
    split at ht
    · simp only [Option.some.injEq, Prod.mk.injEq] at ht
      obtain ⟨rfl, rfl⟩ := ht
      simp only [RepL, Rep] at h
      obtain ⟨v, vs', rfl, rfl, h2⟩ := h
      exact ⟨[_], vs', rfl, by simp [RepT], h2⟩
    · simp at ht
  | .list t, cs, vs, x, r, ht, h => by
    unfold Ty.take takeList at ht
    split at ht
    · split at ht
      · rename_i hk; subst hk
        simp only [Option.some.injEq, Prod.mk.injEq] at ht
        obtain ⟨rfl, rfl⟩ := ht
        simp only [RepL, Rep] at h
        obtain ⟨v, vs', rfl, ⟨h1, _⟩, h2⟩ := h
        exact ⟨[v], vs', rfl, h1, h2⟩
      · simp at ht
    · simp only [Option.some.injEq, Prod.mk.injEq] at ht
      obtain ⟨rfl, rfl⟩ := ht
      simp only [RepL, Rep] at h
      obtain ⟨v, vs', rfl, rfl, h2⟩ := h
      exact ⟨[_], vs', rfl, by simp only [RepT]; exact ⟨none, 0, rfl, Nat.le_refl _, fun i hi => by simp at hi⟩, h2⟩
    · simp at ht
  | .prod a b, cs, vs, x, r, ht, h => by
    unfold Ty.take at ht
    split at ht
    · rename_i y r1 h1
      split at ht
      · rename_i z r2 h2
        simp only [Option.some.injEq, Prod.mk.injEq] at ht
        obtain ⟨rfl, rfl⟩ := ht
        obtain ⟨va, vb, rfl, ha, hb⟩ := RepL.take_of a cs vs y r1 h1 h
        obtain ⟨vc, vd, rfl, hc, hd⟩ := RepL.take_of b r1 vb z r2 h2 hb
        exact ⟨va ++ vc, vd, by simp, by simp only [RepT]; exact ⟨va, vc, rfl, ha, hc⟩, hd⟩
      · simp at ht
    · simp at ht
  | .one a, cs, vs, x, r, ht, h => by
    unfold Ty.take at ht
    obtain ⟨va, vb, rfl, ha, hb⟩ := RepL.take_of a cs vs x r ht h
    exact ⟨va, vb, rfl, by simpa only [RepT] using ha, hb⟩

/-- A solid value's cells are the machine's. -/
theorem Rep.cells {E : Env} {a : AV} {v : Value} (hs : a.solid = true) (h : Rep E a v) : RepL E a.cells v.cells.toList := by
  cases a <;> simp only [AV.solid, Bool.false_eq_true] at hs <;> simp only [AV.cells]
  case agg cs =>
    simp only [Rep] at h
    obtain ⟨vs, rfl, h⟩ := h
    simpa [Value.cells] using h
  case list t l full =>
    have h' := h
    simp only [Rep, RepT] at h'
    obtain ⟨⟨ad, cap, hv, _⟩, _⟩ := h'
    simp only [List.cons.injEq, and_true] at hv
    subst hv
    exact RepL.single h
  case view r lo hi =>
    have h' := h
    simp only [Rep] at h'
    obtain ⟨_, _, _, _, _, ad, cap, rfl, _⟩ := h'
    exact RepL.single h
  case ptr => have h' := h; simp only [Rep] at h'; obtain ⟨b, _, rfl⟩ := h'; exact RepL.single h
  case rptr => have h' := h; simp only [Rep] at h'; obtain ⟨b, _, _, _, _, rfl⟩ := h'; exact RepL.single h
  case iptr => have h' := h; simp only [Rep] at h'; obtain ⟨b, _, rfl, _⟩ := h'; exact RepL.single h
  case func => have h' := h; simp only [Rep] at h'; obtain ⟨b, _, rfl, _⟩ := h'; exact RepL.single h
  case maybe => have h' := h; simp only [Rep] at h'; obtain ⟨b, rfl, _⟩ := h'; exact RepL.single h
  all_goals (have h' := h; simp only [Rep] at h'; subst h'; exact RepL.single h)

/-- Data out of a value. -/
theorem Rep.of {E : Env} {t : Ty} {a : AV} {x : t.T} {v : Value} (ht : t.of a = some x) (h : Rep E a v) : RepT E.w E.ok t x v.cells.toList := by
  unfold Ty.of at ht
  split at ht
  · rename_i hs
    split at ht
    · rename_i y h1
      simp only [Option.some.injEq] at ht
      subst ht
      obtain ⟨va, vb, hv, ha, hb⟩ := RepL.take_of t _ _ y [] h1 (Rep.cells hs h)
      simp only [RepL] at hb
      subst hb
      rw [hv, List.append_nil]; exact ha
    · simp at ht
  · simp at ht

/-! ### own lists -/

def RowIs (w : World) (ok : Nat → Prop) (t : Ty) (l : List t.T) (vs : List Value) : Prop :=
  l.length * t.size ≤ vs.length ∧ ∀ (i : Nat) (h : i < l.length), RepT w ok t l[i] ((vs.drop (i * t.size)).take t.size)

theorem RowIs.mono {w w' : World} {ok ok' : Nat → Prop} (hle : OkLe w ok w' ok') {t : Ty} {l : List t.T} {vs : List Value} (h : RowIs w ok t l vs) : RowIs w' ok' t l vs :=
  ⟨h.1, fun i hi => (h.2 i hi).mono hle⟩

theorem RowIs.nil (w : World) (ok : Nat → Prop) (t : Ty) (vs : List Value) : RowIs w ok t [] vs := ⟨by simp, fun i hi => by simp at hi⟩

theorem mul_le_of_lt {i n s : Nat} (h : i < n) : i * s + s ≤ n * s := by
  have : (i + 1) * s ≤ n * s := Nat.mul_le_mul_right s h
  rw [Nat.add_mul, Nat.one_mul] at this; exact this

theorem RowIs.take {w : World} {ok : Nat → Prop} {t : Ty} {l : List t.T} {vs : List Value} (n : Nat) (h : RowIs w ok t l vs) : RowIs w ok t (l.take n) vs := by
  refine ⟨Nat.le_trans (Nat.mul_le_mul_right _ (by simp; omega)) h.1, fun i hi => ?_⟩
  have : i < l.length := by simp at hi; omega
  simpa [List.getElem_take] using h.2 i this

/-- A row only hangs on its first cells. -/
theorem RowIs.head {w : World} {ok : Nat → Prop} {t : Ty} {l : List t.T} {vs us : List Value} (h : RowIs w ok t l vs) (he : us.take (l.length * t.size) = vs.take (l.length * t.size)) (hl : l.length * t.size ≤ us.length) : RowIs w ok t l us := by
  refine ⟨hl, fun i hi => ?_⟩
  have hle := mul_le_of_lt (s := t.size) hi
  have h1 := h.2 i hi
  have e : ∀ xs : List Value, (xs.drop (i * t.size)).take t.size = ((xs.take (l.length * t.size)).drop (i * t.size)).take t.size := by
    intro xs
    rw [List.drop_take, List.take_take]
    congr 1
    omega
  rw [e us, he, ← e vs]; exact h1

theorem RowIs.append {w : World} {ok : Nat → Prop} {t : Ty} {l l' : List t.T} {vs us : List Value} (h : RowIs w ok t l vs) (h' : RowIs w ok t l' us) (hv : vs.length = l.length * t.size) : RowIs w ok t (l ++ l') (vs ++ us) := by
  refine ⟨?_, fun i hi => ?_⟩
  · have := h'.1
    simp only [List.length_append, Nat.add_mul]; omega
  · by_cases hlt : i < l.length
    · have hle := mul_le_of_lt (s := t.size) hlt
      have h1 := h.2 i hlt
      rw [List.getElem_append_left hlt]
      rw [List.drop_append_of_le_length (by omega), List.take_append_of_le_length (by simp; omega)]
      exact h1
    · have h1 := h'.2 (i - l.length) (by simp at hi; omega)
      rw [List.getElem_append_right (by omega)]
      have e : (vs ++ us).drop (i * t.size) = us.drop ((i - l.length) * t.size) := by
        rw [List.drop_append, List.drop_eq_nil_of_le (by rw [hv]; exact Nat.mul_le_mul_right _ (by omega)), List.nil_append]
        congr 1
        rw [hv, Nat.sub_mul]
      rw [e]; exact h1

theorem RowIs.set {w : World} {ok : Nat → Prop} {t : Ty} {l : List t.T} {vs cs : List Value} {i : Nat} {x : t.T} (h : RowIs w ok t l vs) (hi : i < l.length) (hx : RepT w ok t x cs) :
    RowIs w ok t (l.set i x) (vs.take (i * t.size) ++ cs ++ vs.drop (i * t.size + t.size)) := by
  have hc := hx.length
  have hle := mul_le_of_lt (s := t.size) hi
  have h0 := h.1
  refine ⟨by simp; omega, fun j hj => ?_⟩
  simp only [List.length_set] at hj
  have hlej := mul_le_of_lt (s := t.size) hj
  by_cases hji : j = i
  · subst hji
    simp only [List.getElem_set_self]
    rw [List.append_assoc, List.drop_append, List.drop_eq_nil_of_le (by simp; omega), List.nil_append]
    have : j * t.size - (vs.take (j * t.size)).length = 0 := by simp; omega
    rw [this, List.drop_zero, List.take_append_of_le_length (by omega), ← hc, List.take_length]
    exact hx
  · simp only [List.getElem_set_ne (Ne.symm hji)]
    have h1 := h.2 j hj
    have e : ((vs.take (i * t.size) ++ cs ++ vs.drop (i * t.size + t.size)).drop (j * t.size)).take t.size = (vs.drop (j * t.size)).take t.size := by
      apply List.ext_getElem?
      intro q
      simp only [List.getElem?_take, List.getElem?_drop]
      by_cases hq : q < t.size
      · simp only [hq, if_true]
        rcases Nat.lt_or_gt_of_ne hji with hlt | hgt
        · have := mul_le_of_lt (s := t.size) hlt
          rw [List.append_assoc, List.getElem?_append_left (by simp; omega), List.getElem?_take]
          simp only [show j * t.size + q < i * t.size by omega, if_true]
        · have := mul_le_of_lt (s := t.size) hgt
          rw [List.getElem?_append_right (by simp; omega), List.getElem?_drop]
          congr 1
          simp
          omega
      · simp [hq]
    rw [e]; exact h1

theorem RowIs.single {w : World} {ok : Nat → Prop} {t : Ty} {x : t.T} {cs : List Value} (hx : RepT w ok t x cs) : RowIs w ok t [x] cs :=
  ⟨by simp [hx.length], fun i hi => by
    have : i = 0 := by simp at hi; omega
    subst this
    simpa [← hx.length] using hx⟩

theorem RowIs.replicate {w : World} {ok : Nat → Prop} {t : Ty} {x : t.T} {cs : List Value} (hx : RepT w ok t x cs) : ∀ n, RowIs w ok t (List.replicate n x) (List.replicate n cs).flatten
  | 0 => by simpa using RowIs.nil w ok t []
  | n + 1 => by
    have h1 := RowIs.replicate hx n
    have h2 : RowIs w ok t [x] cs := ⟨by simp [hx.length], fun i hi => by
      have : i = 0 := by simp at hi; omega
      subst this
      simpa [← hx.length] using hx⟩
    have := h2.append h1 (by simp [hx.length])
    simpa [List.replicate_succ] using this

end Go.Cellar
