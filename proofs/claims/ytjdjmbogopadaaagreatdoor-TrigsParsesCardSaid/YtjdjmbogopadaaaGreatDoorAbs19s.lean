/- Regions that draw their order may be taken in the order of the text. No condition. -/
import Derived.Test.YtjdjmbogopadaaaGreatDoorAbs19c
set_option linter.unusedVariables false
set_option linter.unusedSimpArgs false
namespace Go.Cellar
open Go

/-! ### what stands before what -/

theorem within_spec {a b : Nat} (h : within a b = true) {k : Nat} (hk : a.testBit k = true) : b.testBit k = true := by
  unfold within at h
  have he := Nat.eq_of_beq_eq_true h
  have h2 : (a &&& b).testBit k = true := by rw [he]; exact hk
  rw [Nat.testBit_and] at h2
  simp only [Bool.and_eq_true] at h2
  exact h2.2

def befB (ops : Array Oper) (i : Nat) : Nat := (Region.before ops).getD i 0

theorem edge_bits (acc : Array Nat) (k : Nat) : ∀ (l : List Edge) (s : Nat), (l.foldl (fun s e => if Region.binds .any e then s ||| 2 ^ e.on ||| acc.getD e.on 0 else s) s).testBit k = true →
    s.testBit k = true ∨ ∃ e ∈ l, Region.binds .any e = true ∧ (e.on = k ∨ (acc.getD e.on 0).testBit k = true)
  | [], s, h => .inl h
  | e :: l, s, h => by
    rw [List.foldl_cons] at h
    rcases edge_bits acc k l _ h with h | ⟨e', h1, h2⟩
    · split at h
      · rename_i hb
        rw [Nat.testBit_or, Nat.testBit_or, Nat.testBit_two_pow] at h
        simp only [Bool.or_eq_true, decide_eq_true_eq] at h
        rcases h with (h | h) | h
        · exact .inl h
        · exact .inr ⟨e, by simp, hb, .inl h⟩
        · exact .inr ⟨e, by simp, hb, .inr h⟩
      · exact .inl h
    · exact .inr ⟨e', by simp [h1], h2⟩

theorem before_spec (ops : Array Oper) : ∀ i k, (befB ops i).testBit k = true → ∃ o e, ops[i]? = some o ∧ e ∈ o.after ∧ Region.binds .any e = true ∧ (e.on = k ∨ (befB ops e.on).testBit k = true ∧ e.on < i) := by
  have key : (Region.before ops).size = ops.size ∧ ∀ j, j < ops.size → ∀ k, ((Region.before ops).getD j 0).testBit k = true →
      ∃ o e, ops[j]? = some o ∧ e ∈ o.after ∧ Region.binds .any e = true ∧ (e.on = k ∨ ((Region.before ops).getD e.on 0).testBit k = true ∧ e.on < j) := by
    unfold Region.before
    refine Array.foldl_induction (motive := fun (i : Nat) (acc : Array Nat) => acc.size = i ∧ ∀ j, j < i → ∀ k, (acc.getD j 0).testBit k = true →
      ∃ o e, ops[j]? = some o ∧ e ∈ o.after ∧ Region.binds .any e = true ∧ (e.on = k ∨ (acc.getD e.on 0).testBit k = true ∧ e.on < j)) ⟨rfl, fun j hj => by omega⟩ ?_
    rintro ⟨i, hi⟩ acc ⟨h1, h2⟩
    refine ⟨by simp [h1], fun j hj k hk => ?_⟩
    have hget : ∀ x (v : Nat), x < i → (acc.push v).getD x 0 = acc.getD x 0 := by
      intro x v hx
      have h1' : acc.size = i := h1
      simp only [Array.getD_eq_getD_getElem?, Array.getElem?_push, h1', if_neg (show ¬ x = i by omega)]
    by_cases hji : j < i
    · rw [hget j _ hji] at hk
      obtain ⟨o, e, h3, h4, h5, h6⟩ := h2 j hji k hk
      refine ⟨o, e, h3, h4, h5, h6.imp id fun h => ⟨?_, h.2⟩⟩
      rw [hget e.on _ (by omega)]
      exact h.1
    · obtain rfl : j = i := by simp at hj; omega
      have hv : ∀ v : Nat, (acc.push v).getD j 0 = v := by
        intro v
        have h1' : acc.size = j := h1
        simp only [Array.getD_eq_getD_getElem?, Array.getElem?_push, h1', if_true, Option.getD_some]
      rw [hv] at hk
      rw [← Array.foldl_toList] at hk
      rcases edge_bits acc k _ _ hk with h | ⟨e, h3, h4, h5⟩
      · simp at h
      · refine ⟨ops[j], e, by simp [hi], by simpa using h3, h4, h5.imp id fun h => ?_⟩
        have hlt : e.on < j := by
          rcases Nat.lt_or_ge e.on j with h' | h'
          · exact h'
          · have h1' : acc.size = j := h1
            simp [Array.getElem?_eq_none (show acc.size ≤ e.on by omega)] at h
        exact ⟨by rw [hget e.on _ hlt]; exact h, hlt⟩
  intro i k h
  have hi : i < ops.size := by
    rcases Nat.lt_or_ge i ops.size with h' | h'
    · exact h'
    · unfold befB at h
      have := key.1
      simp [Array.getElem?_eq_none (show (Region.before ops).size ≤ i by omega)] at h
  exact key.2 i hi k h

/-- A set of operations that has all that stands before each of its own. -/
def Closed (ops : Array Oper) (D : Nat → Prop) : Prop := ∀ i o e, D i → ops[i]? = some o → e ∈ o.after → Region.binds .any e = true → D e.on

theorem closed_before {ops : Array Oper} {D : Nat → Prop} (h : Closed ops D) : ∀ (i k : Nat), D i → (befB ops i).testBit k = true → D k := by
  intro i
  induction i using Nat.strongRecOn with
  | ind i ih =>
    intro k hi hk
    obtain ⟨o, e, h1, h2, h3, h4⟩ := before_spec ops i k hk
    have he := h i o e hi h1 h2 h3
    rcases h4 with rfl | ⟨h4, h5⟩
    · exact he
    · exact ih e.on h5 k he h4

/-- All that stands before what is ready is there. -/
theorem ready_before {ops : Array Oper} {D : Nat → Prop} (h : Closed ops D) {i : Nat} {o : Oper} (ho : ops[i]? = some o) (hr : ∀ e ∈ o.after, Region.binds .any e = true → D e.on) {k : Nat} (hk : (befB ops i).testBit k = true) : D k := by
  obtain ⟨o', e, h1, h2, h3, h4⟩ := before_spec ops i k hk
  rw [ho] at h1
  simp only [Option.some.injEq] at h1
  subst h1
  have he := hr e h2 h3
  rcases h4 with rfl | ⟨h4, _⟩
  · exact he
  · exact closed_before h e.on k he h4

/-! ### the trace in the order of the text -/

/-- Two operations that need an order: what they are, what they read or write, and how many objects stood ahead of the first one. -/
def Confl (a : Nat) (fa : List Nat) (na : Nat) (b : Nat) (fb : List Nat) : Prop :=
  4 ≤ a ∨ 4 ≤ b ∨ (a = 2 ∧ (2 ≤ b ∨ (b = 1 ∧ ¬ ∀ r ∈ fb, r < na))) ∨ (a = 3 ∧ 2 ≤ b) ∨ (a = 3 ∧ b = 1 ∧ ¬ ∀ r ∈ fb, r ∉ fa ∧ r < na) ∨ (a = 1 ∧ b = 3 ∧ ¬ ∀ r ∈ fa, r ∉ fb)

structure Hist (m : Mk) (i : Nat) (hist : Nat → Nat) (hf : Nat → List Nat) (hn : Nat → Nat) : Prop where
  rd : ∀ k, k < i → hist k = 1 → (k, hf k) ∈ m.rd
  al : ∀ k, k < i → hist k = 2 → (k, [], hn k) ∈ m.wr
  wr : ∀ k, k < i → hist k = 3 → (k, hf k, hn k) ∈ m.wr
  fl : ∀ k, k < i → 4 ≤ hist k → m.fl.testBit k = true

theorem bit_add (a i k : Nat) (h : a.testBit k = true) : (a ||| 2 ^ i).testBit k = true := by rw [Nat.testBit_or, h]; rfl
theorem bit_new (a i : Nat) : (a ||| 2 ^ i).testBit i = true := by rw [Nat.testBit_or, Nat.testBit_two_pow]; simp

theorem Hist.add {m : Mk} {i c n : Nat} {fp : List Nat} {hist : Nat → Nat} {hf : Nat → List Nat} {hn : Nat → Nat} (h : Hist m i hist hf hn) :
    Hist (m.add i fp n c) (i + 1) (fun k => if k < i then hist k else c) (fun k => if k < i then hf k else fp) (fun k => if k < i then hn k else n) where
  rd := fun k hk h1 => by
    by_cases hki : k < i
    · simp only [hki, if_true] at h1 ⊢
      have := h.rd k hki h1
      unfold Mk.add; split <;> first | exact this | exact List.mem_cons_of_mem _ this
    · simp only [hki, if_false] at h1 ⊢
      obtain rfl : k = i := by omega
      subst h1
      exact List.mem_cons_self
  al := fun k hk h1 => by
    by_cases hki : k < i
    · simp only [hki, if_true] at h1 ⊢
      have := h.al k hki h1
      unfold Mk.add; split <;> first | exact this | exact List.mem_cons_of_mem _ this
    · simp only [hki, if_false] at h1 ⊢
      obtain rfl : k = i := by omega
      subst h1
      exact List.mem_cons_self
  wr := fun k hk h1 => by
    by_cases hki : k < i
    · simp only [hki, if_true] at h1 ⊢
      have := h.wr k hki h1
      unfold Mk.add; split <;> first | exact this | exact List.mem_cons_of_mem _ this
    · simp only [hki, if_false] at h1 ⊢
      obtain rfl : k = i := by omega
      subst h1
      exact List.mem_cons_self
  fl := fun k hk h1 => by
    by_cases hki : k < i
    · simp only [hki, if_true] at h1
      have := h.fl k hki h1
      unfold Mk.add; split <;> first | exact this | exact bit_add _ _ _ this
    · simp only [hki, if_false] at h1
      obtain rfl : k = i := by omega
      unfold Mk.add
      split <;> first | omega | exact bit_new _ _

theorem below_bits (i k : Nat) (h : k < i) : (2 ^ i - 1).testBit k = true := by
  rw [Nat.testBit_two_pow_sub_one]; simpa using h

theorem one_bit {b k : Nat} (h : within (2 ^ k) b = true) : b.testBit k = true := within_spec h (by rw [Nat.testBit_two_pow]; simp)

theorem beforeAll_spec {b : Nat} : ∀ {l : List (Nat × List Nat × Nat)}, beforeAll b l = true → ∀ x ∈ l, b.testBit x.1 = true := by
  intro l
  induction l with
  | nil => intro _ x hx; cases hx
  | cons y l ih =>
    intro h x hx
    simp only [beforeAll, Bool.and_eq_true] at h
    rcases List.mem_cons.mp hx with rfl | hx
    · exact one_bit h.1
    · exact ih h.2 x hx

theorem readOk_spec {b : Nat} {fp : List Nat} : ∀ {l : List (Nat × List Nat × Nat)}, readOk b fp l = true → ∀ x ∈ l, b.testBit x.1 = true ∨ ∀ r ∈ fp, r ∉ x.2.1 ∧ r < x.2.2 := by
  intro l
  induction l with
  | nil => intro _ x hx; cases hx
  | cons y l ih =>
    intro h x hx
    simp only [readOk, Bool.and_eq_true, Bool.or_eq_true, List.all_eq_true, Bool.not_eq_true', decide_eq_true_eq] at h
    rcases List.mem_cons.mp hx with rfl | hx
    · rcases h.1 with h1 | h1
      · exact .inl (one_bit h1)
      · exact .inr fun r hr => ⟨by simpa using (h1 r hr).1, (h1 r hr).2⟩
    · exact ih h.2 x hx

theorem writeOk_spec {b : Nat} {fp : List Nat} : ∀ {l : List (Nat × List Nat)}, writeOk b fp l = true → ∀ x ∈ l, b.testBit x.1 = true ∨ ∀ r ∈ x.2, r ∉ fp := by
  intro l
  induction l with
  | nil => intro _ x hx; cases hx
  | cons y l ih =>
    intro h x hx
    simp only [writeOk, Bool.and_eq_true, Bool.or_eq_true, List.all_eq_true, Bool.not_eq_true'] at h
    rcases List.mem_cons.mp hx with rfl | hx
    · rcases h.1 with h1 | h1
      · exact .inl (one_bit h1)
      · exact .inr fun r hr => by simpa using h1 r hr
    · exact ih h.2 x hx

theorem allowed_confl {ops : Array Oper} {m : Mk} {i c n : Nat} {fp : List Nat} {hist : Nat → Nat} {hf : Nat → List Nat} {hn : Nat → Nat} (h : Hist m i hist hf hn) (ha : allowed ops m i fp n c = true) {k : Nat} (hk : k < i) (hc : Confl (hist k) (hf k) (hn k) c fp) : (befB ops i).testBit k = true := by
  unfold allowed at ha
  dsimp only at ha
  unfold befB
  by_cases h4 : 4 ≤ hist k
  · split at ha
    · exact within_spec ha (h.fl k hk h4)
    · simp only [Bool.and_eq_true] at ha
      exact within_spec ha.1.1 (h.fl k hk h4)
    · simp only [Bool.and_eq_true] at ha
      exact within_spec ha.1 (h.fl k hk h4)
    · simp only [Bool.and_eq_true] at ha
      exact within_spec ha.1.1 (h.fl k hk h4)
    · exact within_spec ha (below_bits i k hk)
  · split at ha
    · exfalso; unfold Confl at hc; omega
    · simp only [Bool.and_eq_true] at ha
      rcases (show (hist k = 2 ∧ ¬ ∀ r ∈ fp, r < hn k) ∨ (hist k = 3 ∧ ¬ ∀ r ∈ fp, r ∉ hf k ∧ r < hn k) by unfold Confl at hc; rcases hc with h | h | h | h | h | h <;> first | omega | exact .inl ⟨h.1, (h.2.resolve_left (by omega)).2⟩ | exact .inr ⟨h.1, h.2.2⟩) with ⟨h2, h5⟩ | ⟨h3, h5⟩
      · rcases readOk_spec ha.1.2 _ (h.al k hk h2) with h6 | h6
        · exact h6
        · exact absurd (fun r hr => (h6 r hr).2) h5
      · rcases readOk_spec ha.1.2 _ (h.wr k hk h3) with h6 | h6
        · exact h6
        · exact absurd h6 h5
    · simp only [Bool.and_eq_true] at ha
      rcases (show hist k = 2 ∨ hist k = 3 by unfold Confl at hc; omega) with h2 | h3
      · exact beforeAll_spec ha.2 _ (h.al k hk h2)
      · exact beforeAll_spec ha.2 _ (h.wr k hk h3)
    · simp only [Bool.and_eq_true] at ha
      rcases (show hist k = 2 ∨ hist k = 3 ∨ (hist k = 1 ∧ ¬ ∀ r ∈ hf k, r ∉ fp) by unfold Confl at hc; rcases hc with h | h | h | h | h | h <;> first | omega | exact .inl h.1 | exact .inr (.inl h.1) | exact .inr (.inr ⟨h.1, h.2.2⟩)) with h2 | h3 | ⟨h1, h5⟩
      · exact beforeAll_spec ha.1.2 _ (h.al k hk h2)
      · exact beforeAll_spec ha.1.2 _ (h.wr k hk h3)
      · rcases writeOk_spec ha.2 _ (h.rd k hk h1) with h6 | h6
        · exact h6
        · exact absurd h6 h5
    · exact within_spec ha (below_bits i k hk)

/-- What is known of the j-th operation. -/
def Fact (P : Program) (ops : Array Oper) (st : Nat → St) (cl : Nat → Nat) (fp : Nat → List Nat) (j : Nat) : Prop :=
  ∃ o m, ops[j]? = some o ∧ DStep P ops j o m (cl j) (fp j) (st j) (st (j + 1)) ∧ (cl j = 1 → ∀ r ∈ fp j, r < (st j).hp.length) ∧ ∀ k, k < j → Confl (cl k) (fp k) (st k).hp.length (cl j) (fp j) → (befB ops j).testBit k = true

theorem Confl.num {a : Nat} {fa : List Nat} {na na' : Nat} {b : Nat} {fb : List Nat} (h : Confl a fa na b fb) (hn : na = na') : Confl a fa na' b fb := by
  subst hn; exact h

theorem drun_trace {P : Program} {ops : Array Oper} {i : Nat} {m : Mk} {s s' : St} (h : DRun P ops i m s s') : ∀ (hist : Nat → Nat) (hf : Nat → List Nat) (hn : Nat → Nat), Hist m i hist hf hn → i ≤ ops.size →
    ∃ (st : Nat → St) (cl : Nat → Nat) (fp : Nat → List Nat), st i = s ∧ (∀ k, k < i → cl k = hist k ∧ fp k = hf k) ∧ st ops.size = s' ∧
      ∀ j, i ≤ j → j < ops.size → ∃ o m, ops[j]? = some o ∧ DStep P ops j o m (cl j) (fp j) (st j) (st (j + 1)) ∧ (cl j = 1 → ∀ r ∈ fp j, r < (st j).hp.length) ∧
        ∀ k, k < j → Confl (cl k) (fp k) (if k < i then hn k else (st k).hp.length) (cl j) (fp j) → (befB ops j).testBit k = true := by
  induction h with
  | done hnn =>
    rename_i i m s
    intro hist hf hn hh hi
    have : ops.size ≤ i := by
      rcases Nat.lt_or_ge i ops.size with h' | h'
      · simp [h'] at hnn
      · exact h'
    obtain rfl : i = ops.size := by omega
    exact ⟨fun _ => s, hist, hf, rfl, fun _ _ => ⟨rfl, rfl⟩, rfl, fun j h1 h2 => by omega⟩
  | step ho ha hn0 hs hnx ih =>
    rename_i i m s s1 s' c fp0 n o
    intro hist hf hn hh hi
    have hlt : i < ops.size := (Array.getElem?_eq_some_iff.1 ho).1
    obtain ⟨st, cl, fp, h1, h2, h3, h4⟩ := ih (fun k => if k < i then hist k else c) (fun k => if k < i then hf k else fp0) (fun k => if k < i then hn k else n) hh.add (by omega)
    have hci : cl i = c ∧ fp i = fp0 := by
      have := h2 i (by omega)
      simpa using this
    refine ⟨fun k => if k = i then s else st k, cl, fp, by simp, fun k hk => by have := h2 k (by omega); simpa [hk] using this, by show (if ops.size = i then s else st ops.size) = s'; rw [if_neg (by omega)]; exact h3, ?_⟩
    intro j hj hjn
    by_cases hji : j = i
    · subst hji
      refine ⟨o, m, ho, ?_, ?_, ?_⟩
      · simp only [if_true]
        rw [if_neg (by omega), hci.1, hci.2, h1]
        exact hs
      · intro h1c r hr
        simp only [if_true]
        rw [hci.1] at h1c
        rw [hci.2] at hr
        have hnl := hn0
        subst h1c
        unfold allowed at ha
        simp only [Bool.and_eq_true, List.all_eq_true, decide_eq_true_eq] at ha
        have := ha.2 r hr
        omega
      · intro k hk hc
        rw [hci.1, hci.2] at hc
        have hk2 := h2 k (by omega)
        simp only [hk, if_true] at hk2 hc
        rw [hk2.1, hk2.2] at hc
        exact allowed_confl hh ha hk hc
    · obtain ⟨o', m', h5, h6, h7, h8⟩ := h4 j (by omega) hjn
      refine ⟨o', m', h5, ?_, ?_, fun k hk hc => h8 k hk ?_⟩
      · simp only [if_neg hji]
        rw [if_neg (by omega)]
        exact h6
      · simp only [if_neg hji]
        exact h7
      · by_cases hki : k < i
        · simp only [hki, if_true, show k < i + 1 by omega] at hc ⊢
          exact hc
        · by_cases hke : k = i
          · subst hke
            simp only [Nat.lt_irrefl, if_false, if_true, show k < k + 1 by omega] at hc ⊢
            exact hc.num hn0.symm
          · simp only [hki, hke, if_false, show ¬ k < i + 1 by omega] at hc ⊢
            exact hc

end Go.Cellar
