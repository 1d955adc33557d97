/- What an abstract value says of the machine's memory, and how that outlives changes elsewhere. No condition. -/
import Derived.Test.YtlhpgbaclbkjiaaDoorAbs1
import Derived.Laws.AppendOwn
namespace Go.Cellar
open Go

def CellsAt (w : World) (b off : Nat) (vs : List Value) : Prop :=
  ∀ (j : Nat) (h : j < vs.length), w.cell? ⟨b, off + j, none⟩ = some vs[j]

def RepT (w : World) (ok : Nat → Prop) : (t : Ty) → t.T → List Value → Prop
  | .int k, n, vs => vs = [.int k n]
  | .bool, b, vs => vs = [.bool b]
  | .str, s, vs => vs = [.string ⟨s.toArray⟩]
  | .list t, l, vs => ∃ (ad : Option Addr) (cap : Nat), vs = [.slice ad l.length cap] ∧ l.length ≤ cap ∧
      ∀ (i : Nat) (h : i < l.length), ∃ a cs, ad = some a ∧ a.spot = none ∧ ok a.block ∧ cs.length = t.size ∧ CellsAt w a.block (a.off + i * t.size) cs ∧ RepT w ok t l[i] cs
  | .prod a b, x, vs => ∃ va vb, vs = va ++ vb ∧ RepT w ok a x.1 va ∧ RepT w ok b x.2 vb
  | .one a, x, vs => RepT w ok a x vs

theorem Ty.size_pos : ∀ t : Ty, 0 < t.size
  | .int _ | .bool | .str | .list _ => by simp [Ty.size]
  | .prod a b => by have := Ty.size_pos a; simp [Ty.size]; omega
  | .one a => by have := Ty.size_pos a; simp [Ty.size]; omega

theorem RepT.length {w : World} {ok : Nat → Prop} : ∀ (t : Ty) (x : t.T) (vs : List Value), RepT w ok t x vs → vs.length = t.size
  | .int _, _, _, h => by simp only [RepT] at h; simp [h, Ty.size]
  | .bool, _, _, h => by simp only [RepT] at h; simp [h, Ty.size]
  | .str, _, _, h => by simp only [RepT] at h; simp [h, Ty.size]
  | .list _, _, _, h => by simp only [RepT] at h; obtain ⟨_, _, rfl, _⟩ := h; simp [Ty.size]
  | .prod a b, x, vs, h => by
    simp only [RepT] at h
    obtain ⟨va, vb, rfl, ha, hb⟩ := h
    simp [Ty.size, RepT.length a _ _ ha, RepT.length b _ _ hb]
  | .one a, x, vs, h => by simp only [RepT] at h; simpa [Ty.size] using RepT.length a _ _ h

/-- Blocks that may be read stay readable, as they are. -/
def OkLe (w : World) (ok : Nat → Prop) (w' : World) (ok' : Nat → Prop) : Prop :=
  ∀ b, ok b → b < w.heap.size → ok' b ∧ w'.heap[b]? = w.heap[b]?

theorem OkLe.refl (w : World) (ok : Nat → Prop) : OkLe w ok w ok := fun _ h _ => ⟨h, rfl⟩

theorem lt_of_cell {w : World} {a : Addr} {v : Value} (h : w.cell? a = some v) : a.block < w.heap.size := by
  unfold World.cell? at h
  cases hb : w.heap[a.block]? with
  | none => simp [hb] at h
  | some o => exact (Array.getElem?_eq_some_iff.mp hb).1

theorem CellsAt.mono {w w' : World} {b off : Nat} {vs : List Value} (h : CellsAt w b off vs) (hb : w'.heap[b]? = w.heap[b]?) : CellsAt w' b off vs := by
  intro j hj
  rw [World.cell?_of_block (w := w) hb]
  exact h j hj

theorem CellsAt.lt {w : World} {b off : Nat} {vs : List Value} (h : CellsAt w b off vs) (h0 : 0 < vs.length) : b < w.heap.size :=
  lt_of_cell (h 0 h0)

theorem RepT.mono {w w' : World} {ok ok' : Nat → Prop} (hle : OkLe w ok w' ok') : ∀ (t : Ty) (x : t.T) (vs : List Value), RepT w ok t x vs → RepT w' ok' t x vs
  | .int _, _, _, h => by simp only [RepT] at h ⊢; exact h
  | .bool, _, _, h => by simp only [RepT] at h ⊢; exact h
  | .str, _, _, h => by simp only [RepT] at h ⊢; exact h
  | .list t, l, _, h => by
    simp only [RepT] at h ⊢
    obtain ⟨ad, cap, rfl, hc, hi⟩ := h
    refine ⟨ad, cap, rfl, hc, fun i hl => ?_⟩
    obtain ⟨a, cs, ha, hs, hok, hlen, hcs, hr⟩ := hi i hl
    have hlt : a.block < w.heap.size := hcs.lt (by rw [hlen]; exact Ty.size_pos t)
    obtain ⟨hok', hb⟩ := hle _ hok hlt
    exact ⟨a, cs, ha, hs, hok', hlen, hcs.mono hb, RepT.mono hle t _ _ hr⟩
  | .prod a b, x, vs, h => by
    simp only [RepT] at h ⊢
    obtain ⟨va, vb, rfl, ha, hb⟩ := h
    exact ⟨va, vb, rfl, RepT.mono hle a _ _ ha, RepT.mono hle b _ _ hb⟩
  | .one a, x, vs, h => by simp only [RepT] at h ⊢; exact RepT.mono hle a _ _ h

/-- All that a value's meaning hangs on. -/
structure Env where
  w : World
  ok : Nat → Prop
  bl : List (Option Nat)
  hp : List AO

/-- An own list's or array's element size and length. -/
def rowShape (hp : List AO) (r : Nat) : Option (Nat × Nat) :=
  match hp[r]? with
  | some (.row t l) => some (t.size, l.length)
  | some (.arr t l) => some (t.size, l.length)
  | _ => none

def blockSize (w : World) (b : Nat) : Nat :=
  match w.heap[b]? with
  | some (.cells vs _ _) => vs.size
  | _ => 0

def ViewRep (E : Env) (r lo : Nat) (hi : Option Nat) (v : Value) : Prop :=
  ∃ sz n, rowShape E.hp r = some (sz, n) ∧ lo ≤ hi.getD n ∧ hi.getD n ≤ n ∧
    ∃ ad cap, v = .slice ad (hi.getD n - lo) cap ∧ hi.getD n - lo ≤ cap ∧
      (cap = 0 ∨ ∃ b, E.bl[r]? = some (some b) ∧ ad = some ⟨b, lo * sz, none⟩ ∧ (lo + cap) * sz ≤ blockSize E.w b)

mutual
def Rep (E : Env) : AV → Value → Prop
  | .junk, _ => True
  | .int k n, v => v = .int k n
  | .bool b, v => v = .bool b
  | .str s, v => v = .string ⟨s.toArray⟩
  | .list t l full, v => RepT E.w E.ok (.list t) l [v] ∧ (full = true → ∃ ad, v = .slice ad l.length l.length)
  | .nils, v => v = .slice none 0 0
  | .view r lo hi, v => ViewRep E r lo hi v
  | .ptr r off, v => ∃ b, E.bl[r]? = some (some b) ∧ v = .pointer (some ⟨b, off, none⟩)
  | .rptr r i off, v => ∃ b sz n, E.bl[r]? = some (some b) ∧ rowShape E.hp r = some (sz, n) ∧ v = .pointer (some ⟨b, i * sz + off, none⟩)
  | .iptr cs, v => ∃ a vs, v = .pointer (some a) ∧ a.spot = none ∧ (vs ≠ [] → E.ok a.block) ∧ CellsAt E.w a.block a.off vs ∧ AV.refsL cs = [] ∧ RepL E cs vs
  | .nilp, v => v = .pointer none
  | .func fn first caps, v => ∃ fs cs, v = .func fn fs cs ∧ RepL E first fs.toList ∧ RepL E caps cs.toList
  | .nilf, v => v = .nilFunc
  | .nili, v => v = .nilIface
  | .maybe p, v => ∃ b, v = .bool b ∧ (b = true → p = true)
  | .agg cs, v => ∃ vs, v = .agg vs ∧ RepL E cs vs.toList
  | .tup xs, v => ∃ vs, v = .tuple vs ∧ RepL E xs vs.toList
def RepL (E : Env) : List AV → List Value → Prop
  | [], vs => vs = []
  | a :: as, vs => ∃ v vs', vs = v :: vs' ∧ Rep E a v ∧ RepL E as vs'
end

theorem RepL.length {E : Env} : ∀ {as : List AV} {vs : List Value}, RepL E as vs → vs.length = as.length
  | [], _, h => by simp only [RepL] at h; simp [h]
  | a :: as, vs, h => by
    simp only [RepL] at h
    obtain ⟨v, vs', rfl, _, h2⟩ := h
    simp [RepL.length h2]

theorem RepL.get {E : Env} : ∀ {as : List AV} {vs : List Value}, RepL E as vs → ∀ (i : Nat) (h : i < as.length) (h' : i < vs.length), Rep E as[i] vs[i]
  | a :: as, vs, h, i, hi, hi' => by
    simp only [RepL] at h
    obtain ⟨v, vs', rfl, h1, h2⟩ := h
    cases i with
    | zero => exact h1
    | succ i => exact RepL.get h2 i (by simpa using hi) (by simpa using hi')

theorem RepL.append {E : Env} : ∀ {as bs : List AV} {vs us : List Value}, RepL E as vs → RepL E bs us → RepL E (as ++ bs) (vs ++ us)
  | [], bs, vs, us, h1, h2 => by simp only [RepL] at h1; subst h1; exact h2
  | a :: as, bs, vs, us, h1, h2 => by
    simp only [RepL] at h1
    obtain ⟨v, vs', rfl, h3, h4⟩ := h1
    exact ⟨v, vs' ++ us, rfl, h3, RepL.append h4 h2⟩

theorem RepL.take {E : Env} : ∀ {as : List AV} {vs : List Value} (n : Nat), RepL E as vs → RepL E (as.take n) (vs.take n)
  | [], vs, n, h => by simp only [RepL] at h; subst h; simp [RepL]
  | a :: as, vs, n, h => by
    simp only [RepL] at h
    obtain ⟨v, vs', rfl, h3, h4⟩ := h
    cases n with
    | zero => simp [RepL]
    | succ n => exact ⟨v, vs'.take n, by simp, h3, RepL.take n h4⟩

theorem RepL.drop {E : Env} : ∀ {as : List AV} {vs : List Value} (n : Nat), RepL E as vs → RepL E (as.drop n) (vs.drop n)
  | [], vs, n, h => by simp only [RepL] at h; subst h; simp [RepL]
  | a :: as, vs, n, h => by
    simp only [RepL] at h
    obtain ⟨v, vs', rfl, h3, h4⟩ := h
    cases n with
    | zero => exact ⟨v, vs', by simp, h3, h4⟩
    | succ n => simpa using RepL.drop n h4

theorem RepL.set {E : Env} : ∀ {as : List AV} {vs : List Value} (n : Nat) {a : AV} {v : Value}, RepL E as vs → Rep E a v → RepL E (as.set n a) (vs.set n v)
  | [], vs, n, a, v, h, _ => by simp only [RepL] at h; subst h; simp [RepL]
  | b :: as, vs, n, a, v, h, ha => by
    simp only [RepL] at h
    obtain ⟨u, vs', rfl, h3, h4⟩ := h
    cases n with
    | zero => exact ⟨v, vs', by simp, ha, h4⟩
    | succ n => exact ⟨u, vs'.set n v, by simp, h3, RepL.set n h4 ha⟩

theorem RepL.map {E : Env} {α : Type} (f : α → AV) (g : α → Value) (h : ∀ x, Rep E (f x) (g x)) : ∀ l : List α, RepL E (l.map f) (l.map g)
  | [] => by simp [RepL]
  | x :: l => ⟨g x, l.map g, rfl, h x, RepL.map f g h l⟩

theorem RepL.of_get {E : Env} : ∀ {as : List AV} {vs : List Value}, as.length = vs.length → (∀ (i : Nat) (h : i < as.length) (h' : i < vs.length), Rep E as[i] vs[i]) → RepL E as vs
  | [], vs, hl, _ => by cases vs with | nil => simp [RepL] | cons _ _ => simp at hl
  | a :: as, [], hl, _ => by simp at hl
  | a :: as, v :: vs, hl, h => ⟨v, vs, rfl, h 0 (by simp) (by simp), RepL.of_get (by simpa using hl) fun i h1 h2 => h (i + 1) (by simpa using h1) (by simpa using h2)⟩

theorem RepL.single {E : Env} {a : AV} {v : Value} (h : Rep E a v) : RepL E [a] [v] := ⟨v, [], rfl, h, by simp [RepL]⟩

/-- One operand, wherever it stands. -/
theorem RepL.getD {E : Env} {as : List AV} {vs : Array Value} (h : RepL E as vs.toList) (t : Nat) : Rep E (as.getD t .junk) (vs.getD t undef) := by
  have hl := h.length
  by_cases ht : t < as.length
  · have ht' : t < vs.toList.length := by omega
    have := h.get t ht ht'
    simp only [List.getD_eq_getElem?_getD, List.getElem?_eq_getElem ht, Option.getD_some]
    simpa [Array.getD, show t < vs.size by simpa using ht'] using this
  · have : as.getD t .junk = .junk := by simp [List.getD_eq_getElem?_getD, List.getElem?_eq_none (Nat.le_of_not_lt ht)]
    rw [this]; simp [Rep]

theorem AV.refsL_append : ∀ as bs : List AV, AV.refsL (as ++ bs) = AV.refsL as ++ AV.refsL bs
  | [], bs => by simp [AV.refsL]
  | a :: as, bs => by simp [AV.refsL, AV.refsL_append as bs]

theorem AV.refsL_drop (n : Nat) : ∀ as : List AV, AV.refsL as = [] → AV.refsL (as.drop n) = [] := by
  induction n with
  | zero => intro as h; simpa using h
  | succ n ih => intro as h; cases as with
    | nil => simp [AV.refsL]
    | cons a as => simp only [AV.refsL, List.append_eq_nil_iff] at h; simpa using ih as h.2

theorem AV.refsL_take (n : Nat) : ∀ as : List AV, AV.refsL as = [] → AV.refsL (as.take n) = [] := by
  induction n with
  | zero => intro as h; simp [AV.refsL]
  | succ n ih => intro as h; cases as with
    | nil => simp [AV.refsL]
    | cons a as => simp only [AV.refsL, List.append_eq_nil_iff] at h; simp [AV.refsL, h.1, ih as h.2]

/-! ### references replaced -/

structure SubOk (E E' : Env) (g : AV → AV) : Prop where
  ok : OkLe E.w E.ok E'.w E'.ok
  view : ∀ r lo hi v, Rep E (.view r lo hi) v → Rep E' (g (.view r lo hi)) v
  ptr : ∀ r off v, Rep E (.ptr r off) v → Rep E' (g (.ptr r off)) v
  rptr : ∀ r i off v, Rep E (.rptr r i off) v → Rep E' (g (.rptr r i off)) v

mutual
/-- A value without references, in an environment with more. -/
theorem Rep.plainMono {E E' : Env} (hle : OkLe E.w E.ok E'.w E'.ok) : ∀ (a : AV) (v : Value), AV.refs a = [] → Rep E a v → Rep E' a v
  | .junk, _, _, _ => by simp [Rep]
  | .int _ _, _, _, h => by simp only [Rep] at h ⊢; exact h
  | .bool _, _, _, h => by simp only [Rep] at h ⊢; exact h
  | .str _, _, _, h => by simp only [Rep] at h ⊢; exact h
  | .list t l full, v, _, h => by simp only [Rep] at h ⊢; exact ⟨RepT.mono hle _ _ _ h.1, h.2⟩
  | .nils, _, _, h => by simp only [Rep] at h ⊢; exact h
  | .view _ _ _, _, hr, _ => by simp [AV.refs] at hr
  | .ptr _ _, _, hr, _ => by simp [AV.refs] at hr
  | .rptr _ _ _, _, hr, _ => by simp [AV.refs] at hr
  | .iptr cs, _, _, h => by
    simp only [Rep] at h ⊢
    obtain ⟨a, vs, rfl, h1, h2, h3, h4, h5⟩ := h
    refine ⟨a, vs, rfl, h1, fun hne => ?_, ?_, h4, RepL.plainMono hle cs vs h4 h5⟩
    · have hlt := h3.lt (List.length_pos_iff.mpr hne)
      exact (hle _ (h2 hne) hlt).1
    · by_cases hne : vs = []
      · subst hne; intro j hj; simp at hj
      · exact h3.mono (hle _ (h2 hne) (h3.lt (List.length_pos_iff.mpr hne))).2
  | .nilp, _, _, h => by simp only [Rep] at h ⊢; exact h
  | .func _ f c, _, hr, h => by
    simp only [AV.refs, List.append_eq_nil_iff] at hr
    simp only [Rep] at h ⊢
    obtain ⟨fs, cs, rfl, h1, h2⟩ := h
    exact ⟨fs, cs, rfl, RepL.plainMono hle f _ hr.1 h1, RepL.plainMono hle c _ hr.2 h2⟩
  | .nilf, _, _, h => by simp only [Rep] at h ⊢; exact h
  | .nili, _, _, h => by simp only [Rep] at h ⊢; exact h
  | .maybe _, _, _, h => by simp only [Rep] at h ⊢; exact h
  | .agg cs, _, hr, h => by
    simp only [AV.refs] at hr
    simp only [Rep] at h ⊢
    obtain ⟨vs, rfl, h1⟩ := h
    exact ⟨vs, rfl, RepL.plainMono hle cs _ hr h1⟩
  | .tup cs, _, hr, h => by
    simp only [AV.refs] at hr
    simp only [Rep] at h ⊢
    obtain ⟨vs, rfl, h1⟩ := h
    exact ⟨vs, rfl, RepL.plainMono hle cs _ hr h1⟩
theorem RepL.plainMono {E E' : Env} (hle : OkLe E.w E.ok E'.w E'.ok) : ∀ (as : List AV) (vs : List Value), AV.refsL as = [] → RepL E as vs → RepL E' as vs
  | [], _, _, h => by simp only [RepL] at h ⊢; exact h
  | a :: as, vs, hr, h => by
    simp only [AV.refsL, List.append_eq_nil_iff] at hr
    simp only [RepL] at h ⊢
    obtain ⟨v, vs', rfl, h1, h2⟩ := h
    exact ⟨v, vs', rfl, Rep.plainMono hle a v hr.1 h1, RepL.plainMono hle as vs' hr.2 h2⟩
end

mutual
theorem Rep.sub {E E' : Env} {g : AV → AV} (hg : SubOk E E' g) : ∀ (a : AV) (v : Value), Rep E a v → Rep E' (a.sub g) v
  | .junk, _, _ => by simp [Rep, AV.sub]
  | .int k n, v, h => Rep.plainMono hg.ok (.int k n) v rfl h
  | .bool b, v, h => Rep.plainMono hg.ok (.bool b) v rfl h
  | .str s, v, h => Rep.plainMono hg.ok (.str s) v rfl h
  | .list t l full, v, h => Rep.plainMono hg.ok (.list t l full) v rfl h
  | .nils, v, h => Rep.plainMono hg.ok .nils v rfl h
  | .view r lo hi, v, h => by rw [AV.sub]; exact hg.view r lo hi v h
  | .ptr r off, v, h => by rw [AV.sub]; exact hg.ptr r off v h
  | .rptr r i off, v, h => by rw [AV.sub]; exact hg.rptr r i off v h
  | .iptr cs, v, h => Rep.plainMono hg.ok (.iptr cs) v rfl h
  | .nilp, v, h => Rep.plainMono hg.ok .nilp v rfl h
  | .func fn f c, _, h => by
    simp only [Rep] at h
    obtain ⟨fs, cs, rfl, h1, h2⟩ := h
    simp only [AV.sub, Rep]
    exact ⟨fs, cs, rfl, RepL.sub hg f _ h1, RepL.sub hg c _ h2⟩
  | .nilf, v, h => Rep.plainMono hg.ok .nilf v rfl h
  | .nili, v, h => Rep.plainMono hg.ok .nili v rfl h
  | .maybe p, v, h => Rep.plainMono hg.ok (.maybe p) v rfl h
  | .agg cs, _, h => by
    simp only [Rep] at h
    obtain ⟨vs, rfl, h1⟩ := h
    simp only [AV.sub, Rep]
    exact ⟨vs, rfl, RepL.sub hg cs _ h1⟩
  | .tup cs, _, h => by
    simp only [Rep] at h
    obtain ⟨vs, rfl, h1⟩ := h
    simp only [AV.sub, Rep]
    exact ⟨vs, rfl, RepL.sub hg cs _ h1⟩
theorem RepL.sub {E E' : Env} {g : AV → AV} (hg : SubOk E E' g) : ∀ (as : List AV) (vs : List Value), RepL E as vs → RepL E' (AV.subL g as) vs
  | [], _, h => by simp only [RepL] at h; simp [AV.subL, RepL, h]
  | a :: as, _, h => by
    simp only [RepL] at h
    obtain ⟨v, vs', rfl, h1, h2⟩ := h
    simp only [AV.subL, RepL]
    exact ⟨v, vs', rfl, Rep.sub hg a v h1, RepL.sub hg as vs' h2⟩
end

mutual
theorem AV.sub_id : ∀ a : AV, a.sub (fun v => v) = a
  | .junk | .int _ _ | .bool _ | .str _ | .list _ _ _ | .nils | .view _ _ _ | .ptr _ _ | .rptr _ _ _ | .iptr _ | .nilp | .nilf | .nili | .maybe _ => by simp [AV.sub]
  | .func fn f c => by simp [AV.sub, AV.subL_id f, AV.subL_id c]
  | .agg cs => by simp [AV.sub, AV.subL_id cs]
  | .tup cs => by simp [AV.sub, AV.subL_id cs]
theorem AV.subL_id : ∀ as : List AV, AV.subL (fun v => v) as = as
  | [] => by simp [AV.subL]
  | a :: as => by simp [AV.subL, AV.sub_id a, AV.subL_id as]
end

/-- More is known, nothing renamed. -/
structure EnvLe (E E' : Env) : Prop where
  ok : OkLe E.w E.ok E'.w E'.ok
  bl : ∀ (r b : Nat), E.bl[r]? = some (some b) → E'.bl[r]? = some (some b)
  sh : ∀ (r : Nat) (x : Nat × Nat), rowShape E.hp r = some x → rowShape E'.hp r = some x
  sz : ∀ (r b : Nat), E.bl[r]? = some (some b) → blockSize E.w b ≤ blockSize E'.w b

theorem EnvLe.subOk {E E' : Env} (h : EnvLe E E') : SubOk E E' (fun v => v) where
  ok := h.ok
  view := by
    intro r lo hi v hv
    simp only [Rep] at hv ⊢
    obtain ⟨sz, n, h1, h2, h3, ad, cap, h4, h5, h6⟩ := hv
    refine ⟨sz, n, h.sh _ _ h1, h2, h3, ad, cap, h4, h5, ?_⟩
    rcases h6 with h6 | ⟨b, hb, ha, hs⟩
    · exact .inl h6
    · exact .inr ⟨b, h.bl _ _ hb, ha, Nat.le_trans hs (h.sz _ _ hb)⟩
  ptr := by
    intro r off v hv
    simp only [Rep] at hv ⊢
    obtain ⟨b, hb, rfl⟩ := hv
    exact ⟨b, h.bl _ _ hb, rfl⟩
  rptr := by
    intro r i off v hv
    simp only [Rep] at hv ⊢
    obtain ⟨b, sz, n, hb, hs, rfl⟩ := hv
    exact ⟨b, sz, n, h.bl _ _ hb, h.sh _ _ hs, rfl⟩

theorem Rep.mono {E E' : Env} (h : EnvLe E E') {a : AV} {v : Value} (hr : Rep E a v) : Rep E' a v := by
  have := Rep.sub h.subOk a v hr
  rwa [AV.sub_id] at this

theorem RepL.mono {E E' : Env} (h : EnvLe E E') {as : List AV} {vs : List Value} (hr : RepL E as vs) : RepL E' as vs := by
  have := RepL.sub h.subOk as vs hr
  rwa [AV.subL_id] at this

/-! ### plain data as values -/

theorem Ty.refs_cells_aux : (t : Ty) → (x : t.T) → AV.refsL (t.cells x) = []
  | .int _, _ => by simp [Ty.cells, AV.refsL, AV.refs]
  | .bool, _ => by simp [Ty.cells, AV.refsL, AV.refs]
  | .str, _ => by simp [Ty.cells, AV.refsL, AV.refs]
  | .list _, _ => by simp [Ty.cells, AV.refsL, AV.refs]
  | .prod a b, x => by
    rw [Ty.cells, AV.refsL_append, Ty.refs_cells_aux a, Ty.refs_cells_aux b]; rfl
  | .one a, x => by rw [Ty.cells]; exact Ty.refs_cells_aux a x

end Go.Cellar
