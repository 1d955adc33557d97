/- Regions that draw their order may be taken in the order of the text. No condition. -/
import Derived.Test.YtlhpgbaclbkjiaaDoorAbs19d
set_option linter.unusedVariables false
set_option linter.unusedSimpArgs false
namespace Go.Cellar
open Go

/-! ### what stands before what -/

theorem within_spec {a b : Nat} (h : within a b = true) {k : Nat} (hk : a.testBit k = true) : b.testBit k = true := by
  unfold within at h
  have he := Nat.eq_of_beq_eq_true h
  have h2 : (a &&& b).testBit k = true := by rw [he]; exact hk
  rw [Nat.testBit_and] at h2
  simp only [Bool.and_eq_true] at h2
  exact h2.2

def befB (ops : Array Oper) (i : Nat) : Nat := (Region.before ops).getD i 0

theorem edge_bits (acc : Array Nat) (k : Nat) : ∀ (l : List Edge) (s : Nat), (l.foldl (fun s e => if Region.binds .any e then s ||| 2 ^ e.on ||| acc.getD e.on 0 else s) s).testBit k = true →
    s.testBit k = true ∨ ∃ e ∈ l, Region.binds .any e = true ∧ (e.on = k ∨ (acc.getD e.on 0).testBit k = true)
  | [], s, h => .inl h
  | e :: l, s, h => by
    rw [List.foldl_cons] at h
    rcases edge_bits acc k l _ h with h | ⟨e', h1, h2⟩
    · split at h
      · rename_i hb
        rw [Nat.testBit_or, Nat.testBit_or, Nat.testBit_two_pow] at h
        simp only [Bool.or_eq_true, decide_eq_true_eq] at h
        rcases h with (h | h) | h
        · exact .inl h
        · exact .inr ⟨e, by simp, hb, .inl h⟩
        · exact .inr ⟨e, by simp, hb, .inr h⟩
      · exact .inl h
    · exact .inr ⟨e', by simp [h1], h2⟩

theorem before_spec (ops : Array Oper) : ∀ i k, (befB ops i).testBit k = true → ∃ o e, ops[i]? = some o ∧ e ∈ o.after ∧ Region.binds .any e = true ∧ (e.on = k ∨ (befB ops e.on).testBit k = true ∧ e.on < i) := by
  have key : (Region.before ops).size = ops.size ∧ ∀ j, j < ops.size → ∀ k, ((Region.before ops).getD j 0).testBit k = true →
      ∃ o e, ops[j]? = some o ∧ e ∈ o.after ∧ Region.binds .any e = true ∧ (e.on = k ∨ ((Region.before ops).getD e.on 0).testBit k = true ∧ e.on < j) := by
    unfold Region.before
    refine Array.foldl_induction (motive := fun (i : Nat) (acc : Array Nat) => acc.size = i ∧ ∀ j, j < i → ∀ k, (acc.getD j 0).testBit k = true →
      ∃ o e, ops[j]? = some o ∧ e ∈ o.after ∧ Region.binds .any e = true ∧ (e.on = k ∨ (acc.getD e.on 0).testBit k = true ∧ e.on < j)) ⟨rfl, fun j hj => by omega⟩ ?_
    rintro ⟨i, hi⟩ acc ⟨h1, h2⟩
    refine ⟨by simp [h1], fun j hj k hk => ?_⟩
    have hget : ∀ x (v : Nat), x < i → (acc.push v).getD x 0 = acc.getD x 0 := by
      intro x v hx
      have h1' : acc.size = i := h1
      simp only [Array.getD_eq_getD_getElem?, Array.getElem?_push, h1', if_neg (show ¬ x = i by omega)]
    by_cases hji : j < i
    · rw [hget j _ hji] at hk
      obtain ⟨o, e, h3, h4, h5, h6⟩ := h2 j hji k hk
      refine ⟨o, e, h3, h4, h5, h6.imp id fun h => ⟨?_, h.2⟩⟩
      rw [hget e.on _ (by omega)]
      exact h.1
    · obtain rfl : j = i := by simp at hj; omega
      have hv : ∀ v : Nat, (acc.push v).getD j 0 = v := by
        intro v
        have h1' : acc.size = j := h1
        simp only [Array.getD_eq_getD_getElem?, Array.getElem?_push, h1', if_true, Option.getD_some]
      rw [hv] at hk
      rw [← Array.foldl_toList] at hk
      rcases edge_bits acc k _ _ hk with h | ⟨e, h3, h4, h5⟩
      · simp at h
      · refine ⟨ops[j], e, by simp [hi], by simpa using h3, h4, h5.imp id fun h => ?_⟩
        have hlt : e.on < j := by
          rcases Nat.lt_or_ge e.on j with h' | h'
          · exact h'
          · have h1' : acc.size = j := h1
            simp [Array.getElem?_eq_none (show acc.size ≤ e.on by omega)] at h
        exact ⟨by rw [hget e.on _ hlt]; exact h, hlt⟩
  intro i k h
  have hi : i < ops.size := by
    rcases Nat.lt_or_ge i ops.size with h' | h'
    · exact h'
    · unfold befB at h
      have := key.1
      simp [Array.getElem?_eq_none (show (Region.before ops).size ≤ i by omega)] at h
  exact key.2 i hi k h

/-- A set of operations that has all that stands before each of its own. -/
def Closed (ops : Array Oper) (D : Nat → Prop) : Prop := ∀ i o e, D i → ops[i]? = some o → e ∈ o.after → Region.binds .any e = true → D e.on

theorem closed_before {ops : Array Oper} {D : Nat → Prop} (h : Closed ops D) : ∀ (i k : Nat), D i → (befB ops i).testBit k = true → D k := by
  intro i
  induction i using Nat.strongRecOn with
  | ind i ih =>
    intro k hi hk
    obtain ⟨o, e, h1, h2, h3, h4⟩ := before_spec ops i k hk
    have he := h i o e hi h1 h2 h3
    rcases h4 with rfl | ⟨h4, h5⟩
    · exact he
    · exact ih e.on h5 k he h4

/-- All that stands before what is ready is there. -/
theorem ready_before {ops : Array Oper} {D : Nat → Prop} (h : Closed ops D) {i : Nat} {o : Oper} (ho : ops[i]? = some o) (hr : ∀ e ∈ o.after, Region.binds .any e = true → D e.on) {k : Nat} (hk : (befB ops i).testBit k = true) : D k := by
  obtain ⟨o', e, h1, h2, h3, h4⟩ := before_spec ops i k hk
  rw [ho] at h1
  simp only [Option.some.injEq] at h1
  subst h1
  have he := hr e h2 h3
  rcases h4 with rfl | ⟨h4, _⟩
  · exact he
  · exact closed_before h e.on k he h4

/-! ### the trace in the order of the text -/

/-- Two operations' classes that need an order. -/
def Confl (a b : Nat) : Prop := 4 ≤ a ∨ 4 ≤ b ∨ (a = 2 ∧ b ≠ 0) ∨ (a = 3 ∧ b ≠ 0) ∨ (a = 1 ∧ b = 3)

structure Hist (m : Mk) (i : Nat) (hist : Nat → Nat) : Prop where
  rd : ∀ k, k < i → hist k = 1 → m.rd.testBit k = true
  wr : ∀ k, k < i → hist k = 2 ∨ hist k = 3 → m.wr.testBit k = true
  fl : ∀ k, k < i → 4 ≤ hist k → m.fl.testBit k = true

theorem bit_add (a i k : Nat) (h : a.testBit k = true) : (a ||| 2 ^ i).testBit k = true := by rw [Nat.testBit_or, h]; rfl
theorem bit_new (a i : Nat) : (a ||| 2 ^ i).testBit i = true := by rw [Nat.testBit_or, Nat.testBit_two_pow]; simp

theorem Hist.add {m : Mk} {i c : Nat} {hist : Nat → Nat} (h : Hist m i hist) : Hist (m.add i c) (i + 1) (fun k => if k < i then hist k else c) where
  rd := fun k hk h1 => by
    split at h1
    · rename_i hki
      have := h.rd k hki h1
      unfold Mk.add; split <;> first | exact this | exact bit_add _ _ _ this
    · obtain rfl : k = i := by omega
      subst h1
      exact bit_new _ _
  wr := fun k hk h1 => by
    split at h1
    · rename_i hki
      have := h.wr k hki h1
      unfold Mk.add; split <;> first | exact this | exact bit_add _ _ _ this
    · obtain rfl : k = i := by omega
      rcases h1 with h1 | h1 <;> subst h1 <;> exact bit_new _ _
  fl := fun k hk h1 => by
    split at h1
    · rename_i hki
      have := h.fl k hki h1
      unfold Mk.add; split <;> first | exact this | exact bit_add _ _ _ this
    · obtain rfl : k = i := by omega
      unfold Mk.add
      split <;> first | omega | exact bit_new _ _

theorem below_bits (i k : Nat) (h : k < i) : (2 ^ i - 1).testBit k = true := by
  rw [Nat.testBit_two_pow_sub_one]; simpa using h

theorem allowed_confl {ops : Array Oper} {m : Mk} {i c : Nat} {hist : Nat → Nat} (h : Hist m i hist) (ha : allowed ops m i c = true) {k : Nat} (hk : k < i) (hc : Confl (hist k) c) : (befB ops i).testBit k = true := by
  unfold allowed at ha
  dsimp only at ha
  unfold befB
  split at ha
  · -- 0
    have h3 : 4 ≤ hist k := by unfold Confl at hc; omega
    exact within_spec ha (h.fl k hk h3)
  · simp only [Bool.and_eq_true] at ha
    have h3 : 4 ≤ hist k ∨ (hist k = 2 ∨ hist k = 3) := by unfold Confl at hc; omega
    rcases h3 with h3 | h3
    · exact within_spec ha.1 (h.fl k hk h3)
    · exact within_spec ha.2 (h.wr k hk h3)
  · simp only [Bool.and_eq_true] at ha
    have h3 : 4 ≤ hist k ∨ (hist k = 2 ∨ hist k = 3) := by unfold Confl at hc; omega
    rcases h3 with h3 | h3
    · exact within_spec ha.1 (h.fl k hk h3)
    · exact within_spec ha.2 (h.wr k hk h3)
  · simp only [Bool.and_eq_true] at ha
    have h3 : 4 ≤ hist k ∨ (hist k = 2 ∨ hist k = 3) ∨ hist k = 1 := by unfold Confl at hc; omega
    rcases h3 with h3 | h3 | h3
    · exact within_spec ha.1.1 (h.fl k hk h3)
    · exact within_spec ha.1.2 (h.wr k hk h3)
    · exact within_spec ha.2 (h.rd k hk h3)
  · exact within_spec ha (below_bits i k hk)

/-- What is known of the j-th operation. -/
def Fact (P : Program) (ops : Array Oper) (st : Nat → St) (cl : Nat → Nat) (j : Nat) : Prop :=
  ∃ o m, ops[j]? = some o ∧ DStep P ops j o m (cl j) (st j) (st (j + 1)) ∧ ∀ k, k < j → Confl (cl k) (cl j) → (befB ops j).testBit k = true

theorem drun_trace {P : Program} {ops : Array Oper} {i : Nat} {m : Mk} {s s' : St} (h : DRun P ops i m s s') : ∀ (hist : Nat → Nat), Hist m i hist → i ≤ ops.size →
    ∃ (st : Nat → St) (cl : Nat → Nat), st i = s ∧ (∀ k, k < i → cl k = hist k) ∧ st ops.size = s' ∧ ∀ j, i ≤ j → j < ops.size → Fact P ops st cl j := by
  induction h with
  | done hn =>
    rename_i i m s
    intro hist hh hi
    have : ops.size ≤ i := by
      rcases Nat.lt_or_ge i ops.size with h' | h'
      · simp [h'] at hn
      · exact h'
    obtain rfl : i = ops.size := by omega
    exact ⟨fun _ => s, hist, rfl, fun _ _ => rfl, rfl, fun j h1 h2 => by omega⟩
  | step ho ha hs hn ih =>
    rename_i i m s s1 s' c o
    intro hist hh hi
    have hlt : i < ops.size := (Array.getElem?_eq_some_iff.1 ho).1
    obtain ⟨st, cl, h1, h2, h3, h4⟩ := ih (fun k => if k < i then hist k else c) hh.add (by omega)
    refine ⟨fun k => if k = i then s else st k, cl, by simp, fun k hk => by rw [h2 k (by omega)]; simp [hk], by show (if ops.size = i then s else st ops.size) = s'; rw [if_neg (by omega)]; exact h3, ?_⟩
    intro j hj hjn
    by_cases hji : j = i
    · subst hji
      have hcj : cl j = c := by rw [h2 j (by omega)]; simp
      refine ⟨o, m, ho, ?_, ?_⟩
      · simp only [if_true]
        rw [if_neg (by omega), hcj, h1]
        exact hs
      · intro k hk hc
        rw [hcj, h2 k (by omega), if_pos hk] at hc
        exact allowed_confl hh ha hk hc
    · obtain ⟨o', m', h5, h6, h7⟩ := h4 j (by omega) hjn
      refine ⟨o', m', h5, ?_, h7⟩
      simp only [if_neg hji]
      rw [if_neg (by omega)]
      exact h6

end Go.Cellar
